/- The law: what the walk holds, and how a step turns it. -/
import Derived.Test.Qxb6500277aGreatGL5
namespace Go.Proofs.Qxb6500277aGreat
open Go Go.RowKit

/-- One colour a block. -/
structure Kg (lo n : Nat) (κ : Nat → Nat) (E : Nat → Prop) (v1 v2 mv : Value) (nm : Nat) (f : Nat → Value) (inv : Value) (bo bb : Nat) : Prop where
  q1 : ∀ b, E b → κ b = 1
  q3 : ∀ b, isB v1 b → κ b = 3
  q4 : ∀ b, isB v2 b → κ b = 4
  q5 : ∀ b, isB mv b → κ b = 5
  q6 : ∀ j, j < nm → ∀ b, isB (f j) b → κ b = 6
  q7 : ∀ b, isB inv b → κ b = 7
  q8 : ∀ b, b = bo ∨ b = bb → κ b = 8
  lo : ∀ b, κ b ≠ 0 → lo ≤ b ∧ b < n
/-- What the walk holds. -/
structure Gst (lo : Nat) (w : World) (g e : Nat) (A : Va) (bo bb c m : Nat) (inv mv : Value) (E : Nat → Prop) (er po en rt fu : Int) (L : List Int) (v1 v2 v3 : Value) (nm : Nat) (f : Nat → Value) (I : List Int) (κ : Nat → Nat) : Prop where
  S : Sys w g e A E
  kI : KiAt w inv I
  il : I.length ≤ 129
  Bo : Blk w bo 3 (o3 c m A.m)
  Bb : Blk w bb 13 (c13 (.int .i64 er) (.int .i64 po) (.int .i64 en) (.int .i64 rt) v1 (.int .i64 fu) (.int .i64 er) (.int .i64 po) (.int .i64 en) (.int .i64 rt) v2 (.int .i64 fu) v3)
  k1 : KiAt w v1 L
  k2 : KiAt w v2 L
  s3 : ∃ a n k, v3 = .slice a n k
  le : L.length ≤ 1024
  mn : MnA w mv nm f
  kq : Kg lo w.heap.size κ E v1 v2 mv nm f inv bo bb
  ne : bo ≠ bb
structure LG (lo : Nat) (w : World) (g e : Nat) (A : Va) (bo bb c m : Nat) (inv mv : Value) : Prop where
  ex : ∃ E er po en rt fu L v1 v2 v3 nm f I κ, Gst lo w g e A bo bb c m inv mv E er po en rt fu L v1 v2 v3 nm f I κ
/-- The answers of a run, not yet kept. -/
structure Tri (lo : Nat) (w : World) (κ : Nat → Nat) (v1 v2 v3 : Value) (L : List Int) (q : Nat) : Prop where
  k1 : KiAt w v1 L
  k2 : KiAt w v2 L
  k3 : KiAt w v3 (List.replicate q stmp)
  le : L.length ≤ 1024
  lq : q ≤ 2000
  c : ∀ b, isB v1 b ∨ isB v2 b ∨ isB v3 b → κ b = 0 ∧ lo ≤ b
  d1 : ∀ b, isB v1 b → ¬ isB v2 b ∧ ¬ isB v3 b
  d2 : ∀ b, isB v2 b → ¬ isB v3 b
section
variable {lo : Nat} {w w' w3 w4 w5 w6 : World} {g e : Nat} {A : Va} {bo bb c m : Nat} {inv mv mv1 mv2 : Value} {E E' : Nat → Prop} {er po en rt fu er' po' en' rt' fu' fuel : Int} {L L' : List Int} {v1 v2 v3 v1' v2' v3' : Value} {nm n1 n2 q : Nat} {f f1 f2 : Nat → Value} {I : List Int} {κ : Nat → Nat} {src : ByteArray}
theorem Kg.grow {n n' : Nat} (h : Kg lo n κ E v1 v2 mv nm f inv bo bb) (hn : n ≤ n') : Kg lo n' κ E v1 v2 mv nm f inv bo bb :=
  ⟨h.q1, h.q3, h.q4, h.q5, h.q6, h.q7, h.q8, fun b hb => ⟨(h.lo b hb).1, Nat.lt_of_lt_of_le (h.lo b hb).2 hn⟩⟩
theorem Gst.same (H : Gst lo w g e A bo bb c m inv mv E er po en rt fu L v1 v2 v3 nm f I κ) (k : Fr (fun _ => False) w w') : Gst lo w' g e A bo bb c m inv mv E er po en rt fu L v1 v2 v3 nm f I κ :=
  ⟨H.S.frame k fun _ _ => id, H.kI.frame k fun _ _ => id, H.il, H.Bo.frame k id, H.Bb.frame k id, H.k1.frame k fun _ _ => id, H.k2.frame k fun _ _ => id, H.s3, H.le, H.mn.frame k fun _ _ => id, H.kq.grow k.size, H.ne⟩
theorem LG.same (H : LG lo w g e A bo bb c m inv mv) (k : Fr (fun _ => False) w w') : LG lo w' g e A bo bb c m inv mv := by
  obtain ⟨E, er, po, en, rt, fu, L, v1, v2, v3, nm, f, I, κ, H⟩ := H.ex
  exact ⟨⟨E, er, po, en, rt, fu, L, v1, v2, v3, nm, f, I, κ, H.same k⟩⟩
theorem Tri.same (T : Tri lo w κ v1 v2 v3 L q) (k : Fr (fun _ => False) w w') : Tri lo w' κ v1 v2 v3 L q :=
  ⟨T.k1.frame k fun _ _ => id, T.k2.frame k fun _ _ => id, T.k3.frame k fun _ _ => id, T.le, T.lq, T.c, T.d1, T.d2⟩
noncomputable def kN (κ : Nat → Nat) (E' : Nat → Prop) (n : Nat) : Nat → Nat := by
  classical
  exact fun b => if b < n then κ b else if E' b then 1 else 0
theorem kN_old {b n : Nat} (h : b < n) : kN κ E' n b = κ b := by unfold kN; rw [if_pos h]
/-- Both sides have moved; all else stands. -/
theorem Gst.sys (H : Gst lo w g e A bo bb c m inv mv E er po en rt fu L v1 v2 v3 nm f I κ) (S' : Sys w' g e A E') (sub : ∀ b, E' b → E b ∨ w.heap.size ≤ b) (k : Fr E w w') (hlo : lo ≤ w.heap.size) : Gst lo w' g e A bo bb c m inv mv E' er po en rt fu L v1 v2 v3 nm f I (kN κ E' w.heap.size) := by
  have kq := H.kq
  have y : ∀ {b n : Nat}, κ b = n → n ≠ 1 → ¬ E b := fun h h2 e => h2 (by rw [← h]; exact kq.q1 _ e)
  have old : ∀ {b n : Nat}, κ b = n → n ≠ 0 → kN κ E' w.heap.size b = n := fun {b n} h h2 => by
    rw [kN_old (kq.lo b (by omega)).2]; exact h
  refine ⟨S', H.kI.frame k fun b hb => y (kq.q7 b hb) (by omega), H.il, H.Bo.frame k (y (kq.q8 _ (.inl rfl)) (by omega)), H.Bb.frame k (y (kq.q8 _ (.inr rfl)) (by omega)), H.k1.frame k fun b hb => y (kq.q3 b hb) (by omega), H.k2.frame k fun b hb => y (kq.q4 b hb) (by omega), H.s3, H.le, H.mn.frame k fun b hb => hb.elim (fun h => y (kq.q5 b h) (by omega)) fun ⟨j, hj, h⟩ => y (kq.q6 j hj b h) (by omega),
    ⟨fun b hb => ?_, fun b hb => old (kq.q3 b hb) (by omega), fun b hb => old (kq.q4 b hb) (by omega), fun b hb => old (kq.q5 b hb) (by omega), fun j hj b hb => old (kq.q6 j hj b hb) (by omega), fun b hb => old (kq.q7 b hb) (by omega), fun b hb => old (kq.q8 b hb) (by omega), fun b hb => ?_⟩, H.ne⟩
  · by_cases h : b < w.heap.size
    · exact old (kq.q1 b ((sub b hb).resolve_right (by omega))) (by omega)
    · unfold kN; rw [if_neg h, if_pos hb]
  · by_cases h : b < w.heap.size
    · rw [kN_old h] at hb
      exact ⟨(kq.lo b hb).1, Nat.lt_of_lt_of_le h k.size⟩
    · unfold kN at hb
      rw [if_neg h] at hb
      by_cases h2 : E' b
      · exact ⟨by omega, S'.lt b h2⟩
      · rw [if_neg h2] at hb; exact absurd rfl hb
theorem SRn.tri (T : SRn w w' g e A E src I fuel er po en rt fu L v1 v2 v3 E') (hI : I.length ≤ 129) (hlo : lo ≤ w.heap.size) : Tri lo w' (kN κ E' w.heap.size) v1 v2 v3 L I.length := by
  refine ⟨T.k1, T.k2, T.k3, T.le, by omega, fun b hb => ?_, T.d1, T.d2⟩
  have o := T.nb b hb
  refine ⟨?_, by omega⟩
  unfold kN
  rw [if_neg (by omega), if_neg o.2]
theorem Tri.sys (T : Tri lo w κ v1' v2' v3' L' q) (H : Gst lo w g e A bo bb c m inv mv E er po en rt fu L v1 v2 v3 nm f I κ) (k : Fr E w w') : Tri lo w' (kN κ E' w.heap.size) v1' v2' v3' L' q := by
  have y : ∀ b, isB v1' b ∨ isB v2' b ∨ isB v3' b → ¬ E b := fun b hb h => by have := (T.c b hb).1; have := H.kq.q1 b h; omega
  have l : ∀ b, isB v1' b ∨ isB v2' b ∨ isB v3' b → b < w.heap.size := fun b hb => by
    rcases hb with h | h | h
    · exact T.k1.bk h
    · exact T.k2.bk h
    · exact T.k3.bk h
  refine ⟨T.k1.frame k fun b hb => y b (.inl hb), T.k2.frame k fun b hb => y b (.inr (.inl hb)), T.k3.frame k fun b hb => y b (.inr (.inr hb)), T.le, T.lq, fun b hb => ⟨?_, (T.c b hb).2⟩, T.d1, T.d2⟩
  rw [kN_old (l b hb)]; exact (T.c b hb).1
/-- The pending input grows. -/
theorem LG.inp (H : LG lo w g e A bo bb c m inv mv) (hlo : lo ≤ w.heap.size) {inv' : Value} {I' : List Int} (k : Fr (isB inv) w w') (hI : KiAt w' inv' I') (hl : I'.length ≤ 129) (hb : ∀ b, isB inv' b → w.heap.size ≤ b ∨ isB inv b) : LG lo w' g e A bo bb c m inv' mv := by
  classical
  obtain ⟨E, er, po, en, rt, fu, L, v1, v2, v3, nm, f, I, κ, H⟩ := H.ex
  have kq := H.kq
  have y : ∀ {b n : Nat}, κ b = n → n ≠ 7 → ¬ isB inv b := fun h h2 e => h2 (by rw [← h]; exact kq.q7 _ e)
  have old : ∀ {b n : Nat}, κ b = n → n ≠ 0 → (if w.heap.size ≤ b ∧ isB inv' b then 7 else κ b) = n := fun {b n} h h2 => by
    have := (kq.lo b (by omega)).2
    rw [if_neg (by omega)]; exact h
  refine ⟨⟨E, er, po, en, rt, fu, L, v1, v2, v3, nm, f, I', fun b => if w.heap.size ≤ b ∧ isB inv' b then 7 else κ b, H.S.frame k fun b hb => y (kq.q1 b hb) (by omega), hI, hl, H.Bo.frame k (y (kq.q8 _ (.inl rfl)) (by omega)), H.Bb.frame k (y (kq.q8 _ (.inr rfl)) (by omega)), H.k1.frame k fun b hb => y (kq.q3 b hb) (by omega), H.k2.frame k fun b hb => y (kq.q4 b hb) (by omega), H.s3, H.le, H.mn.frame k fun b hb => hb.elim (fun h => y (kq.q5 b h) (by omega)) fun ⟨j, hj, h⟩ => y (kq.q6 j hj b h) (by omega),
    ⟨fun b hb => old (kq.q1 b hb) (by omega), fun b hb => old (kq.q3 b hb) (by omega), fun b hb => old (kq.q4 b hb) (by omega), fun b hb => old (kq.q5 b hb) (by omega), fun j hj b hb => old (kq.q6 j hj b hb) (by omega), fun b h => ?_, fun b hb => old (kq.q8 b hb) (by omega), fun b h => ?_⟩, H.ne⟩⟩
  · rcases hb b h with g | g
    · exact if_pos ⟨g, h⟩
    · exact old (kq.q7 b g) (by omega)
  · by_cases g : w.heap.size ≤ b ∧ isB inv' b
    · exact ⟨by omega, hI.bk g.2⟩
    · rw [if_neg g] at h
      exact ⟨(kq.lo b h).1, Nat.lt_of_lt_of_le (kq.lo b h).2 k.size⟩
/-- No input is pending. -/
theorem Gst.none (H : Gst lo w g e A bo bb c m inv mv E er po en rt fu L v1 v2 v3 nm f I κ) : LG lo w g e A bo bb c m nilS mv :=
  ⟨⟨E, er, po, en, rt, fu, L, v1, v2, v3, nm, f, [], κ, H.S, .inl ⟨rfl, rfl⟩, Nat.zero_le _, H.Bo, H.Bb, H.k1, H.k2, H.s3, H.le, H.mn, ⟨H.kq.q1, H.kq.q3, H.kq.q4, H.kq.q5, H.kq.q6, fun b hb => absurd hb (nil_noB b), H.kq.q8, H.kq.lo⟩, H.ne⟩⟩
/-- The answers are kept. -/
theorem Gst.go (H : Gst lo w g e A bo bb c m inv mv E er po en rt fu L v1 v2 v3 nm f I κ) (hlo : lo ≤ w.heap.size) (T : Tri lo w κ v1' v2' v3' L' q) (hs3 : ∃ a n k, v3' = .slice a n k) (k3 : Fr (isB v1) w w3) (R1 : KeepR w3 mv v1 nm f mv1 n1 f1 w4) (R2 : KeepR w4 mv1 v3' n1 f1 mv2 n2 f2 w5) (k6 : Fr (fun c => c = bb) w5 w6)
    (hB : Blk w6 bb 13 (c13 (.int .i64 er') (.int .i64 po') (.int .i64 en') (.int .i64 rt') v1' (.int .i64 fu') (.int .i64 er') (.int .i64 po') (.int .i64 en') (.int .i64 rt') v2' (.int .i64 fu') v3')) : LG lo w6 g e A bo bb c m nilS mv2 ∧ Fr (fun b => lo ≤ b) w w6 := by
  classical
  have kq := H.kq
  have z3 := k3.size
  have z4 := R1.fr.size
  have z5 := R2.fr.size
  have z6 := k6.size
  have lt : ∀ {b n : Nat}, κ b = n → n ≠ 0 → b < w.heap.size := fun {b n} h h2 => (kq.lo b (by omega)).2
  have up : ∀ {b : Nat}, w.heap.size ≤ b → κ b = 0 := fun {b} h => by
    by_cases e : κ b = 0
    · exact e
    · have := (kq.lo b e).2; omega
  have m1l : ∀ b, isB mv1 b → w.heap.size ≤ b ∨ isB mv b := fun b hb => (R1.bk b hb).imp (fun h => by omega) id
  have m2l : ∀ b, isB mv2 b → w.heap.size ≤ b ∨ isB mv b := fun b hb => (R2.bk b hb).elim (fun h => .inl (by omega)) (m1l b)
  have F : Fr (fun c => isB v1 c ∨ isB mv c ∨ w.heap.size ≤ c ∨ c = bb) w w6 := (((k3.mono (S' := fun c => isB v1 c ∨ isB mv c ∨ w.heap.size ≤ c ∨ c = bb) fun _ _ h => .inl h).trans R1.fr fun _ _ h => .inr (.inl h)).trans R2.fr fun c _ h => (m1l c h).elim (fun h => .inr (.inr (.inl h))) fun h => .inr (.inl h)).trans k6 fun _ _ h => .inr (.inr (.inr h))
  have hbb := kq.q8 bb (.inr rfl)
  have far : ∀ {b : Nat}, b < w.heap.size → κ b ≠ 3 → κ b ≠ 5 → b ≠ bb → ¬ (isB v1 b ∨ isB mv b ∨ w.heap.size ≤ b ∨ b = bb) := fun {b} h1 h2 h3 h4 h => by
    rcases h with h | h | h | h
    · exact h2 (kq.q3 b h)
    · exact h3 (kq.q5 b h)
    · omega
    · exact h4 h
  have nbb : ∀ {b n : Nat}, κ b = n → n ≠ 8 → b ≠ bb := fun {b n} h h2 e => by rw [e] at h; omega
  have tl : ∀ b, isB v1' b ∨ isB v2' b ∨ isB v3' b → b < w.heap.size := fun b hb => by
    rcases hb with h | h | h
    · exact T.k1.bk h
    · exact T.k2.bk h
    · exact T.k3.bk h
  have tf : ∀ b, isB v1' b ∨ isB v2' b ∨ isB v3' b → ¬ (isB v1 b ∨ isB mv b ∨ w.heap.size ≤ b ∨ b = bb) := fun b hb => by
    have h0 := (T.c b hb).1
    exact far (tl b hb) (by omega) (by omega) (nbb h0 (by omega))
  have f2b : ∀ j, j < n2 → ∀ b, isB (f2 j) b → isB v3' b ∨ isB v1 b ∨ κ b = 6 := fun j hj b hb => by
    rcases R2.of j hj with e | ⟨i, hi, e⟩
    · rw [e] at hb; exact .inl hb
    · rw [e] at hb
      rcases R1.of i hi with e | ⟨i', hi', e⟩
      · rw [e] at hb; exact .inr (.inl hb)
      · rw [e] at hb; exact .inr (.inr (kq.q6 i' hi' b hb))
  have mn6 : MnA w6 mv2 n2 f2 := R2.mn.frame k6 fun b hb h => by
    have h : b = bb := h
    subst h
    have hl := lt hbb (by omega)
    rcases hb with hb | ⟨j, hj, hb⟩
    · rcases m2l b hb with g | g
      · omega
      · have := kq.q5 b g; omega
    · rcases f2b j hj b hb with g | g | g
      · have := (T.c b (.inr (.inr g))).1; omega
      · have := kq.q3 b g; omega
      · omega
  -- colours
  obtain ⟨κ', hκ⟩ : ∃ κ' : Nat → Nat, κ' = fun b => if isB v3' b ∨ isB v1 b then 6 else if isB v1' b then 3 else if isB v2' b then 4 else if κ b = 4 ∨ κ b = 7 then 0 else if b < w.heap.size then κ b else if isB mv2 b then 5 else 0 := ⟨_, rfl⟩
  have old : ∀ {b n : Nat}, κ b = n → n ≠ 0 → n ≠ 3 → n ≠ 4 → n ≠ 7 → κ' b = n := fun {b n} h h0 h3 h4 h7 => by
    have hl := lt h h0
    have t0 : ¬ (isB v1' b ∨ isB v2' b ∨ isB v3' b) := fun e => by have := (T.c b e).1; omega
    rw [hκ]
    show (if isB v3' b ∨ isB v1 b then 6 else _) = n
    rw [if_neg (fun e => e.elim (fun e => t0 (.inr (.inr e))) fun e => by have := kq.q3 b e; omega), if_neg (fun e => t0 (.inl e)), if_neg (fun e => t0 (.inr (.inl e))), if_neg (by omega), if_pos hl]
    exact h
  have six : ∀ {b : Nat}, isB v3' b ∨ isB v1 b → κ' b = 6 := fun {b} h => by
    rw [hκ]
    show (if isB v3' b ∨ isB v1 b then 6 else _) = 6
    rw [if_pos h]
  refine ⟨⟨⟨E, er', po', en', rt', fu', L', v1', v2', v3', n2, f2, [], κ', H.S.frame F fun b hb => ?_, .inl ⟨rfl, rfl⟩, Nat.zero_le _, H.Bo.frame F ?_, hB, T.k1.frame F fun b hb => tf b (.inl hb), T.k2.frame F fun b hb => tf b (.inr (.inl hb)), hs3, T.le, mn6, ⟨fun b hb => old (kq.q1 b hb) (by omega) (by omega) (by omega) (by omega), fun b hb => ?_, fun b hb => ?_, fun b hb => ?_, fun j hj b hb => ?_, fun b hb => absurd hb (nil_noB b), fun b hb => old (kq.q8 b hb) (by omega) (by omega) (by omega) (by omega), fun b hb => ?_⟩, H.ne⟩⟩, ?_⟩
  · have h1 := kq.q1 b hb
    exact far (lt h1 (by omega)) (by omega) (by omega) (nbb h1 (by omega))
  · have h8 := kq.q8 bo (.inl rfl)
    exact far (lt h8 (by omega)) (by omega) (by omega) H.ne
  · have h0 := (T.c b (.inl hb)).1
    rw [hκ]
    show (if isB v3' b ∨ isB v1 b then 6 else _) = 3
    rw [if_neg (fun e => e.elim (fun e => (T.d1 b hb).2 e) fun e => by have := kq.q3 b e; omega), if_pos hb]
  · have h0 := (T.c b (.inr (.inl hb))).1
    rw [hκ]
    show (if isB v3' b ∨ isB v1 b then 6 else _) = 4
    rw [if_neg (fun e => e.elim (fun e => T.d2 b hb e) fun e => by have := kq.q3 b e; omega), if_neg (fun e => (T.d1 b e).1 hb), if_pos hb]
  · rcases m2l b hb with h | h
    · have h0 := up h
      have t0 : ¬ (isB v1' b ∨ isB v2' b ∨ isB v3' b) := fun e => by have := tl b e; omega
      rw [hκ]
      show (if isB v3' b ∨ isB v1 b then 6 else _) = 5
      rw [if_neg (fun e => e.elim (fun e => t0 (.inr (.inr e))) fun e => by have := kq.q3 b e; omega), if_neg (fun e => t0 (.inl e)), if_neg (fun e => t0 (.inr (.inl e))), if_neg (by omega), if_neg (by omega), if_pos hb]
    · exact old (kq.q5 b h) (by omega) (by omega) (by omega) (by omega)
  · rcases f2b j hj b hb with h | h | h
    · exact six (.inl h)
    · exact six (.inr h)
    · exact old h (by omega) (by omega) (by omega) (by omega)
  · by_cases g1 : isB v3' b ∨ isB v1 b
    · rcases g1 with h | h
      · exact ⟨(T.c b (.inr (.inr h))).2, by have := tl b (.inr (.inr h)); omega⟩
      · have h3 := kq.q3 b h
        exact ⟨(kq.lo b (by omega)).1, by have := lt h3 (by omega); omega⟩
    by_cases g2 : isB v1' b
    · exact ⟨(T.c b (.inl g2)).2, by have := tl b (.inl g2); omega⟩
    by_cases g3 : isB v2' b
    · exact ⟨(T.c b (.inr (.inl g3))).2, by have := tl b (.inr (.inl g3)); omega⟩
    by_cases g4 : b < w.heap.size
    · have hk : κ b ≠ 0 := fun e0 => by
        rw [hκ] at hb
        have hb : (if isB v3' b ∨ isB v1 b then 6 else if isB v1' b then 3 else if isB v2' b then 4 else if κ b = 4 ∨ κ b = 7 then 0 else if b < w.heap.size then κ b else if isB mv2 b then 5 else 0) ≠ 0 := hb
        rw [if_neg g1, if_neg g2, if_neg g3, if_neg (by omega), if_pos g4] at hb
        exact hb e0
      exact ⟨(kq.lo b hk).1, by omega⟩
    · have hm : isB mv2 b := Classical.byContradiction fun e0 => by
        rw [hκ] at hb
        have hb : (if isB v3' b ∨ isB v1 b then 6 else if isB v1' b then 3 else if isB v2' b then 4 else if κ b = 4 ∨ κ b = 7 then 0 else if b < w.heap.size then κ b else if isB mv2 b then 5 else 0) ≠ 0 := hb
        have := up (b := b) (by omega)
        rw [if_neg g1, if_neg g2, if_neg g3, if_neg (by omega), if_neg g4, if_neg e0] at hb
        exact hb rfl
      exact ⟨by omega, mn6.lt (.inl hm)⟩
  · refine F.mono fun b hb h => ?_
    rcases h with h | h | h | h
    · exact (kq.lo b (by have := kq.q3 b h; omega)).1
    · exact (kq.lo b (by have := kq.q5 b h; omega)).1
    · omega
    · subst h; exact (kq.lo b (by omega)).1
end
end Go.Proofs.Qxb6500277aGreat
