/- The law: a Run, as a step of the walk. -/
import Derived.Test.Qxb6500281aGreatVL7
namespace Go.Proofs.Qxb6500281aGreat
open Go Go.RowKit

section
variable {lo : Nat} {w w' w1 w2 w3 w4 w5 w6 : World} {A : Va} {m hm b6 b11 b12 : Nat} {idle : Bool} {inv mv : Value}
/-- The state, opened. -/
structure Op1 (lo : Nat) (w : World) (A : Va) (m hm b6 b11 b12 : Nat) (idle : Bool) (inv mv : Value) (S : HS) (s : Int) (t : Nat) (cv iv : Value) (M : MS) (sm tm : Int) (O : Nat → Prop) (er po en rt fu : Int) (L : List Int) (v1 v2 : Value) (nm : Nat) (f : Nat → Value) (I : List Int) (κ : Nat → Nat) : Prop where
  R : RI w A S s t cv iv
  X : MX w m hm M sm tm O
  mi : MInv M
  h24 : M.rt.length ≤ 24
  hi : idle = true → s = 0 ∧ t = 0
  hn : idle = false → Rel S M ∧ s = sm ∧ ((t : Nat) : Int) = tm
  kI : KiAt w inv I
  il : I.length ≤ 129
  B6 : Blk w b6 1 (fun _ => .pointer (some ⟨A.h, 0, none⟩))
  B11 : Blk w b11 6 (c6 (.int .i64 er) (.int .i64 po) (.int .i64 en) (.int .i64 rt) v1 (.int .i64 fu))
  B12 : Blk w b12 6 (c6 (.int .i64 er) (.int .i64 po) (.int .i64 en) (.int .i64 rt) v2 (.int .i64 fu))
  k1 : KiAt w v1 L
  k2 : KiAt w v2 L
  le : L.length ≤ 1024
  mn : MnA w mv nm f
  kq : Kq lo w.heap.size κ A cv iv m O v1 v2 mv nm f inv b6 b11 b12
  ne : b6 ≠ b11 ∧ b6 ≠ b12 ∧ b11 ≠ b12
theorem LW.opn (H : LW lo w A m hm b6 b11 b12 idle inv mv) : ∃ S s t cv iv M sm tm O er po en rt fu L v1 v2 nm f I κ, Op1 lo w A m hm b6 b11 b12 idle inv mv S s t cv iv M sm tm O er po en rt fu L v1 v2 nm f I κ := by
  obtain ⟨S, s, t, cv, iv, M, sm, tm, O, er, po, en, rt, fu, L, v1, v2, nm, f, I, κ, R, X, mi, h24, hi, hn, kI, il, B6, B11, B12, k1, k2, le, mn, kq⟩ := H.ex
  exact ⟨S, s, t, cv, iv, M, sm, tm, O, er, po, en, rt, fu, L, v1, v2, nm, f, I, κ, R, X, mi, h24, hi, hn, kI, il, B6, B11, B12, k1, k2, le, mn, kq, H.ne⟩
variable {S S' : HS} {s s' : Int} {t t' : Nat} {cv iv cv' iv' : Value} {M M' : MS} {sm tm sm' tm' : Int} {O O' : Nat → Prop} {er po en rt fu er' po' en' rt' fu' fuel : Int} {L L' : List Int} {v1 v2 v1' v2' v3 mv1 mv2 : Value} {nm n3 n1 n2 : Nat} {f f1 f2 : Nat → Value} {I : List Int} {κ : Nat → Nat}
/-- The old lists behind SameRun. -/
theorem Op1.at1 (H : Op1 lo w A m hm b6 b11 b12 idle inv mv S s t cv iv M sm tm O er po en rt fu L v1 v2 nm f I κ) (T : SRun w w1 A m hm fuel S s t cv iv M sm tm O er' L' v1' v2' v3 n3 S' s' t' cv' iv' M' sm' tm' O') (k2 : Fr (fun _ => False) w1 w2) :
    KiAt w2 v1 L ∧ KiAt w2 v2 L ∧ MnA w2 mv nm f ∧ Blk w2 b6 1 (fun _ => .pointer (some ⟨A.h, 0, none⟩)) ∧ Blk w2 b11 6 (c6 (.int .i64 er) (.int .i64 po) (.int .i64 en) (.int .i64 rt) v1 (.int .i64 fu)) ∧ Blk w2 b12 6 (c6 (.int .i64 er) (.int .i64 po) (.int .i64 en) (.int .i64 rt) v2 (.int .i64 fu)) := by
  have y : ∀ {b n : Nat}, κ b = n → n ≠ 1 → n ≠ 2 → ¬ (VQ A cv iv b ∨ b = m ∨ O b) := fun h h1 h2 e => e.elim (fun e => h1 (by rw [← h]; exact H.kq.q1 _ e)) (fun e => h2 (by rw [← h]; exact H.kq.q2 _ e))
  exact ⟨(H.k1.frame T.fr (fun b hb => y (H.kq.q3 b hb) (by omega) (by omega))).frame k2 (fun _ _ h => h), (H.k2.frame T.fr (fun b hb => y (H.kq.q4 b hb) (by omega) (by omega))).frame k2 (fun _ _ h => h), (H.mn.frame T.fr (fun c hc => hc.elim (fun h => y (H.kq.q5 c h) (by omega) (by omega)) (fun ⟨j, hj, h⟩ => y (H.kq.q6 j hj c h) (by omega) (by omega)))).frame k2 (fun _ _ h => h), (H.B6.frame T.fr (y (H.kq.q8 _ (.inl rfl)) (by omega) (by omega))).frame k2 (fun h => h), (H.B11.frame T.fr (y (H.kq.q8 _ (.inr (.inl rfl))) (by omega) (by omega))).frame k2 (fun h => h), (H.B12.frame T.fr (y (H.kq.q8 _ (.inr (.inr rfl))) (by omega) (by omega))).frame k2 (fun h => h)⟩
/-- The whole step. -/
theorem Op1.go (H : Op1 lo w A m hm b6 b11 b12 idle inv mv S s t cv iv M sm tm O er po en rt fu L v1 v2 nm f I κ) (hlo : lo ≤ w.heap.size) (T : SRun w w1 A m hm fuel S s t cv iv M sm tm O er' L' v1' v2' v3 n3 S' s' t' cv' iv' M' sm' tm' O') (k2 : Fr (fun _ => False) w1 w2) (k3 : Fr (isB v1) w2 w3)
    (R1 : KeepR w3 mv v1 nm f mv1 n1 f1 w4) (R2 : KeepR w4 mv1 v3 n1 f1 mv2 n2 f2 w5) (k6 : Fr (fun c => c = b11 ∨ c = b12) w5 w6) (h11 : Blk w6 b11 6 (c6 (.int .i64 er') (.int .i64 po') (.int .i64 en') (.int .i64 rt') v1' (.int .i64 fu'))) (h12 : Blk w6 b12 6 (c6 (.int .i64 er') (.int .i64 po') (.int .i64 en') (.int .i64 rt') v2' (.int .i64 fu')))
    {idle' : Bool} (hi0 : er' = 0 → idle' = decide (fuel ≤ 0)) (hi1 : er' ≠ 0 → idle' = idle) : LW lo w6 A m hm b6 b11 b12 idle' nilS mv2 := by
  classical
  obtain ⟨nR, nM, a1, a2, a3, a4, a5, a6, a7⟩ := T.ap
  have kq := H.kq
  have z1 := T.fr.size
  have z2 := k2.size
  have z3 := k3.size
  have z4 := R1.fr.size
  have z5 := R2.fr.size
  have z6 := k6.size
  have lt : ∀ {b n : Nat}, κ b = n → n ≠ 0 → b < w.heap.size := fun {b n} h h2 => (kq.lo b (by omega)).2
  have v1l : ∀ b, isB v1 b → b < w.heap.size := fun b hb => lt (kq.q3 b hb) (by omega)
  have mvl : ∀ b, isB mv b → b < w.heap.size := fun b hb => lt (kq.q5 b hb) (by omega)
  have m1l : ∀ b, isB mv1 b → w1.heap.size ≤ b ∨ isB mv b := fun b hb => (R1.bk b hb).imp (fun h => by omega) id
  have m2l : ∀ b, isB mv2 b → w1.heap.size ≤ b ∨ isB mv b := fun b hb => (R2.bk b hb).elim (fun h => .inl (by omega)) (m1l b)
  -- the frame from w1 to w6
  have F : Fr (fun c => isB v1 c ∨ isB mv c ∨ w1.heap.size ≤ c ∨ c = b11 ∨ c = b12) w1 w6 := ((((k2.mono (S' := fun c => isB v1 c ∨ isB mv c ∨ w1.heap.size ≤ c ∨ c = b11 ∨ c = b12) (fun _ _ h => h.elim)).trans k3 (fun _ _ h => .inl h)).trans R1.fr (fun _ _ h => .inr (.inl h))).trans R2.fr (fun c _ h => (m1l c h).elim (fun h => .inr (.inr (.inl h))) (fun h => .inr (.inl h)))).trans k6 (fun _ _ h => .inr (.inr (.inr h)))
  have far : ∀ b, b < w1.heap.size → (w.heap.size ≤ b ∨ κ b = 1 ∨ κ b = 2) → ¬ (isB v1 b ∨ isB mv b ∨ w1.heap.size ≤ b ∨ b = b11 ∨ b = b12) := fun b hb hk h => by
    rcases h with h | h | h | h
    · have := kq.q3 b h; have := v1l b h; omega
    · have := kq.q5 b h; have := mvl b h; omega
    · omega
    · have h8 := kq.q8 b (.inr h)
      have := lt h8 (by omega)
      omega
  have b6l := lt (kq.q8 b6 (.inl rfl)) (by omega)
  have n3l : ∀ b, isB v3 b → b < w1.heap.size := fun b hb => T.k3.bk hb
  have f2b : ∀ j, j < n2 → ∀ b, isB (f2 j) b → isB v3 b ∨ isB v1 b ∨ κ b = 6 := fun j hj b hb => by
    rcases R2.of j hj with e | ⟨i, hi, e⟩
    · rw [e] at hb; exact .inl hb
    · rw [e] at hb
      rcases R1.of i hi with e | ⟨i', hi', e⟩
      · rw [e] at hb; exact .inr (.inl hb)
      · rw [e] at hb; exact .inr (.inr (kq.q6 i' hi' b hb))
  have mn5 := R2.mn
  have mn6 : MnA w6 mv2 n2 f2 := mn5.frame k6 (fun c hc h => by
    have h8 := kq.q8 c (.inr h)
    have hl := lt h8 (by omega)
    rcases hc with hc | ⟨j, hj, hc⟩
    · rcases m2l c hc with g | g
      · omega
      · have := kq.q5 c g; omega
    · rcases f2b j hj c hc with g | g | g
      · have := (a3 c g).1; omega
      · have := kq.q3 c g; omega
      · omega)
  have B6' : Blk w6 b6 1 (fun _ => .pointer (some ⟨A.h, 0, none⟩)) := (H.at1 T (Fr.refl _ w1)).2.2.2.1.frame F (fun h => by
    have h8 := kq.q8 b6 (.inl rfl)
    rcases h with h | h | h | h | h
    · have := kq.q3 _ h; omega
    · have := kq.q5 _ h; omega
    · omega
    · exact H.ne.1 h
    · exact H.ne.2.1 h)
  have VQl : ∀ b, VQ A cv' iv' b → κ b = 1 ∨ (nR ≤ b ∧ b < nM) := fun b hb => by
    rcases hb with hb | hb
    · exact .inl (kq.q1 b (.inl hb))
    · rcases a5 b hb with h | h
      · exact .inr h
      · exact .inl (kq.q1 b (.inr h))
  have Ol : ∀ c, c = m ∨ O' c → κ c = 2 ∨ nM ≤ c := fun c hc => by
    rcases hc with hc | hc
    · exact .inl (kq.q2 c (.inl hc))
    · exact (a7 c hc).symm.imp (fun h => kq.q2 c (.inr h)) id
  have VQ1 : ∀ b, VQ A cv' iv' b → b < w1.heap.size := fun b hb => T.R.lt hb
  have O1 : ∀ c, c = m ∨ O' c → c < w1.heap.size := fun c hc => hc.elim (fun e => by rw [e]; exact T.X.lt.1) (T.X.lt.2 c)
  -- the new colours
  refine ⟨⟨S', s', t', cv', iv', M', sm', tm', O', er', po', en', rt', fu', L', v1', v2', n2, f2, [], fun b => if b < w.heap.size then (if isB v1 b then 6 else if κ b = 4 ∨ κ b = 7 then 9 else κ b) else if isB v3 b then 6 else if VQ A cv' iv' b then 1 else if isB v1' b then 3 else if O' b then 2 else if isB v2' b then 4 else if isB mv2 b then 5 else 0,
    T.R.frame F (fun b hb => far b (VQ1 b hb) ((VQl b hb).elim (fun h => .inr (.inl h)) (fun h => .inl (by omega)))), T.X.frame F (far m (O1 m (.inl rfl)) (.inr (.inr (kq.q2 m (.inl rfl))))) (fun c hc => far c (O1 c (.inr hc)) ((Ol c (.inr hc)).elim (fun h => .inr (.inr h)) (fun h => .inl (by omega)))), T.mi, T.h24, ?_, ?_, .inl ⟨rfl, rfl⟩, Nat.zero_le _, B6', h11, h12,
    T.k1.frame F (fun b hb => far b (T.k1.bk hb) (.inl (by have := (a4 b hb).1; omega))), T.k2.frame F (fun b hb => far b (T.k2.bk hb) (.inl (by have := (a6 b hb).1; omega))), T.le, mn6, ⟨fun b hb => ?_, fun b hb => ?_, fun b hb => ?_, fun b hb => ?_, fun b hb => ?_, fun j hj b hb => ?_, fun b hb => absurd hb (nil_noB b), fun b hb => ?_, fun b hb => ?_⟩⟩, H.ne⟩
  · intro hd
    by_cases h0 : er' = 0
    · have := hi0 h0
      rw [hd] at this
      exact (T.ok h0).2.2.2 (of_decide_eq_true this.symm)
    · obtain ⟨_, e2, e3, _⟩ := T.no h0
      rw [e2, e3]
      exact H.hi (by rw [← hi1 h0]; exact hd)
  · intro hd
    by_cases h0 : er' = 0
    · obtain ⟨e1, e2, e3, _⟩ := T.ok h0
      exact ⟨e1, e2, e3⟩
    · obtain ⟨e1, e2, e3, e4, e5, e6⟩ := T.no h0
      rw [e1, e2, e3, e4, e5, e6]
      exact H.hn (by rw [← hi1 h0]; exact hd)
  · show (if b < w.heap.size then _ else _) = 1
    rcases VQl b hb with h | h
    · rw [if_pos (lt h (by omega)), if_neg (fun e => by have := kq.q3 b e; omega), if_neg (by omega)]
      exact h
    · rw [if_neg (by omega), if_neg (fun e => by have := (a3 b e).2; omega), if_pos hb]
  · show (if b < w.heap.size then _ else _) = 2
    rcases Ol b hb with h | h
    · rw [if_pos (lt h (by omega)), if_neg (fun e => by have := kq.q3 b e; omega), if_neg (by omega)]
      exact h
    · have hm' : O' b := hb.elim (fun e => by
        have h9 := lt (kq.q2 b (.inl e)) (by omega)
        omega) id
      rw [if_neg (by omega), if_neg (fun e => by have := (a3 b e).2; omega), if_neg (fun e => (VQl b e).elim (fun g => by have := lt g (by omega); omega) (fun g => by omega)), if_neg (fun e => by have := (a4 b e).2.1; omega), if_pos hm']
  · show (if b < w.heap.size then _ else _) = 3
    obtain ⟨c1, c2, c3, c4⟩ := a4 b hb
    rw [if_neg (by omega), if_neg (fun e => by have := (a3 b e).2; omega), if_neg (fun e => ?_), if_pos hb]
    rcases e with e | e | e
    · have := lt (kq.q1 b (.inl e)) (by omega); omega
    · exact c3 e
    · exact c4 e
  · show (if b < w.heap.size then _ else _) = 4
    obtain ⟨c1, c2⟩ := a6 b hb
    rw [if_neg (by omega), if_neg (fun e => by have := (a3 b e).2; omega), if_neg (fun e => (VQl b e).elim (fun g => by have := lt g (by omega); omega) (fun g => by omega)), if_neg (fun e => by have := (a4 b e).2.1; omega), if_neg c2, if_pos hb]
  · show (if b < w.heap.size then _ else _) = 5
    rcases m2l b hb with h | h
    · rw [if_neg (by omega), if_neg (fun e => by have := n3l b e; omega), if_neg (fun e => by have := VQ1 b e; omega), if_neg (fun e => by have := T.k1.bk e; omega), if_neg (fun e => by have := O1 b (.inr e); omega), if_neg (fun e => by have := T.k2.bk e; omega), if_pos hb]
    · have h5 := kq.q5 b h
      rw [if_pos (mvl b h), if_neg (fun e => by have := kq.q3 b e; omega), if_neg (by omega)]
      exact h5
  · show (if b < w.heap.size then _ else _) = 6
    rcases f2b j hj b hb with h | h | h
    · rw [if_neg (by have := (a3 b h).1; omega), if_pos h]
    · rw [if_pos (v1l b h), if_pos h]
    · rw [if_pos (lt h (by omega)), if_neg (fun e => by have := kq.q3 b e; omega), if_neg (by omega)]
      exact h
  · show (if b < w.heap.size then _ else _) = 8
    have h := kq.q8 b hb
    rw [if_pos (lt h (by omega)), if_neg (fun e => by have := kq.q3 b e; omega), if_neg (by omega)]
    exact h
  · by_cases hl : b < w.heap.size
    · have hb' : (if isB v1 b then 6 else if κ b = 4 ∨ κ b = 7 then 9 else κ b) ≠ 0 := by
        have := hb
        simp only [hl, if_true] at this
        exact this
      have hk : κ b ≠ 0 := fun e => by
        by_cases g : isB v1 b
        · have := kq.q3 b g; omega
        · rw [if_neg g, e, if_neg (by omega)] at hb'
          exact hb' rfl
      exact ⟨(kq.lo b hk).1, by omega⟩
    · refine ⟨by omega, ?_⟩
      simp only [hl, if_false] at hb
      by_cases g1 : isB v3 b
      · have := n3l b g1; omega
      by_cases g2 : VQ A cv' iv' b
      · have := VQ1 b g2; omega
      by_cases g3 : isB v1' b
      · have := T.k1.bk g3; omega
      by_cases g4 : O' b
      · have := O1 b (.inr g4); omega
      by_cases g5 : isB v2' b
      · have := T.k2.bk g5; omega
      by_cases g6 : isB mv2 b
      · have := mn6.lt (.inl g6); omega
      rw [if_neg g1, if_neg g2, if_neg g3, if_neg g4, if_neg g5, if_neg g6] at hb
      exact absurd rfl hb
end
end Go.Proofs.Qxb6500281aGreat
