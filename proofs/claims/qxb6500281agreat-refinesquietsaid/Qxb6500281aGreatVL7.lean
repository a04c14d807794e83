/- The law: what the walk holds, and how a step turns it. -/
import Derived.Test.Qxb6500281aGreatVL6
namespace Go.Proofs.Qxb6500281aGreat
open Go Go.RowKit

/-- One colour a block. -/
structure Kq (lo n : Nat) (κ : Nat → Nat) (A : Va) (cv iv : Value) (m : Nat) (O : Nat → Prop) (v1 v2 mv : Value) (nm : Nat) (f : Nat → Value) (inv : Value) (b6 b11 b12 : Nat) : Prop where
  q1 : ∀ b, VQ A cv iv b → κ b = 1
  q2 : ∀ b, b = m ∨ O b → κ b = 2
  q3 : ∀ b, isB v1 b → κ b = 3
  q4 : ∀ b, isB v2 b → κ b = 4
  q5 : ∀ b, isB mv b → κ b = 5
  q6 : ∀ j, j < nm → ∀ b, isB (f j) b → κ b = 6
  q7 : ∀ b, isB inv b → κ b = 7
  q8 : ∀ b, b = b6 ∨ b = b11 ∨ b = b12 → κ b = 8
  lo : ∀ b, κ b ≠ 0 → lo ≤ b ∧ b < n
/-- What the walk holds. -/
structure LW (lo : Nat) (w : World) (A : Va) (m hm b6 b11 b12 : Nat) (idle : Bool) (inv mv : Value) : Prop where
  ex : ∃ S s t cv iv M sm tm O er po en rt fu L v1 v2 nm f I κ, RI w A S s t cv iv ∧ MX w m hm M sm tm O ∧ MInv M ∧ M.rt.length ≤ 24 ∧ (idle = true → s = 0 ∧ t = 0) ∧ (idle = false → Rel S M ∧ s = sm ∧ ((t : Nat) : Int) = tm) ∧
    KiAt w inv I ∧ I.length ≤ 129 ∧ Blk w b6 1 (fun _ => .pointer (some ⟨A.h, 0, none⟩)) ∧ Blk w b11 6 (c6 (.int .i64 er) (.int .i64 po) (.int .i64 en) (.int .i64 rt) v1 (.int .i64 fu)) ∧ Blk w b12 6 (c6 (.int .i64 er) (.int .i64 po) (.int .i64 en) (.int .i64 rt) v2 (.int .i64 fu)) ∧
    KiAt w v1 L ∧ KiAt w v2 L ∧ L.length ≤ 1024 ∧ MnA w mv nm f ∧ Kq lo w.heap.size κ A cv iv m O v1 v2 mv nm f inv b6 b11 b12
  ne : b6 ≠ b11 ∧ b6 ≠ b12 ∧ b11 ≠ b12
section
variable {lo : Nat} {w w' w1 w2 w3 w4 w5 : World} {A : Va} {m hm b6 b11 b12 : Nat} {idle : Bool} {inv mv : Value}
theorem Kq.grow {n n' : Nat} {κ : Nat → Nat} {cv iv v1 v2 : Value} {O : Nat → Prop} {nm : Nat} {f : Nat → Value} (h : Kq lo n κ A cv iv m O v1 v2 mv nm f inv b6 b11 b12) (hn : n ≤ n') : Kq lo n' κ A cv iv m O v1 v2 mv nm f inv b6 b11 b12 :=
  ⟨h.q1, h.q2, h.q3, h.q4, h.q5, h.q6, h.q7, h.q8, fun b hb => ⟨(h.lo b hb).1, Nat.lt_of_lt_of_le (h.lo b hb).2 hn⟩⟩
theorem LW.same (H : LW lo w A m hm b6 b11 b12 idle inv mv) (k : Fr (fun _ => False) w w') : LW lo w' A m hm b6 b11 b12 idle inv mv := by
  obtain ⟨S, s, t, cv, iv, M, sm, tm, O, er, po, en, rt, fu, L, v1, v2, nm, f, I, κ, R, X, mi, h24, hi, hn, kI, il, B6, B11, B12, k1, k2, le, mn, kq⟩ := H.ex
  exact ⟨⟨S, s, t, cv, iv, M, sm, tm, O, er, po, en, rt, fu, L, v1, v2, nm, f, I, κ, R.same k, X.same k, mi, h24, hi, hn, kI.frame k (fun _ _ h => h), il, B6.frame k (fun h => h), B11.frame k (fun h => h), B12.frame k (fun h => h), k1.frame k (fun _ _ h => h), k2.frame k (fun _ _ h => h), le, mn.frame k (fun _ _ h => h), kq.grow k.size⟩, H.ne⟩
/-- The pending input grows. -/
theorem LW.inp (H : LW lo w A m hm b6 b11 b12 idle inv mv) (hlo : lo ≤ w.heap.size) {inv' : Value} {I' : List Int} (k : Fr (isB inv) w w') (hI : KiAt w' inv' I') (hl : I'.length ≤ 129) (hb : ∀ b, isB inv' b → w.heap.size ≤ b ∨ isB inv b) : LW lo w' A m hm b6 b11 b12 idle inv' mv := by
  classical
  obtain ⟨S, s, t, cv, iv, M, sm, tm, O, er, po, en, rt, fu, L, v1, v2, nm, f, I, κ, R, X, mi, h24, hi, hn, kI, il, B6, B11, B12, k1, k2, le, mn, kq⟩ := H.ex
  have y : ∀ {b n : Nat}, κ b = n → n ≠ 7 → ¬ isB inv b := fun h h2 e => h2 (by rw [← h]; exact kq.q7 _ e)
  have old : ∀ {b n : Nat}, κ b = n → n ≠ 0 → (if w.heap.size ≤ b ∧ isB inv' b then 7 else κ b) = n := fun {b n} h h2 => by
    have := (kq.lo b (by omega)).2
    rw [if_neg (by omega)]; exact h
  refine ⟨⟨S, s, t, cv, iv, M, sm, tm, O, er, po, en, rt, fu, L, v1, v2, nm, f, I', fun b => if w.heap.size ≤ b ∧ isB inv' b then 7 else κ b, R.frame k (fun b hb => y (kq.q1 b hb) (by omega)), X.frame k (y (kq.q2 m (.inl rfl)) (by omega)) (fun c hc => y (kq.q2 c (.inr hc)) (by omega)), mi, h24, hi, hn, hI, hl, B6.frame k (y (kq.q8 _ (.inl rfl)) (by omega)), B11.frame k (y (kq.q8 _ (.inr (.inl rfl))) (by omega)), B12.frame k (y (kq.q8 _ (.inr (.inr rfl))) (by omega)), k1.frame k (fun b hb => y (kq.q3 b hb) (by omega)), k2.frame k (fun b hb => y (kq.q4 b hb) (by omega)), le, mn.frame k (fun c hc => hc.elim (fun h => y (kq.q5 c h) (by omega)) (fun ⟨j, hj, h⟩ => y (kq.q6 j hj c h) (by omega))),
    ⟨fun b hb => old (kq.q1 b hb) (by omega), fun b hb => old (kq.q2 b hb) (by omega), fun b hb => old (kq.q3 b hb) (by omega), fun b hb => old (kq.q4 b hb) (by omega), fun b hb => old (kq.q5 b hb) (by omega), fun j hj b hb => old (kq.q6 j hj b hb) (by omega), fun b h => ?_, fun b hb => old (kq.q8 b hb) (by omega), fun b h => ?_⟩⟩, H.ne⟩
  · rcases hb b h with g | g
    · exact if_pos ⟨g, h⟩
    · exact old (kq.q7 b g) (by omega)
  · by_cases g : w.heap.size ≤ b ∧ isB inv' b
    · exact ⟨by omega, hI.bk g.2⟩
    · rw [if_neg g] at h
      exact ⟨(kq.lo b h).1, Nat.lt_of_lt_of_le (kq.lo b h).2 k.size⟩
/-- A new real machine over the same heap. -/
theorem LW.fresh (H : LW lo w A m hm b6 b11 b12 idle inv mv) (hlo : lo ≤ w.heap.size) {c : Nat} {S1 : HS} (k1 : Fr (OnlyH A.h) w w1) (hM : HM w1 A.h S1) (hS : ∃ Mx, Rel S1 Mx) (k2 : Fr (fun _ => False) w1 w2) (hc : c = w1.heap.size) (B : Blk w2 c 65 (vC ⟨c, A.h⟩ (fun _ => 0) ⟨0, 0, 0, 0, 0⟩ 0 (V0 0) nilS nilS nilS)) : LW lo w2 ⟨c, A.h⟩ m hm b6 b11 b12 true inv mv := by
  classical
  obtain ⟨S, s, t, cv, iv, M, sm, tm, O, er, po, en, rt, fu, L, v1, v2, nm, f, I, κ, R, X, mi, h24, hi, hn, kI, il, B6, B11, B12, kk1, kk2, le, mn, kq⟩ := H.ex
  have k : Fr (OnlyH A.h) w w2 := k1.trans k2 (fun _ _ h => h.elim)
  have hA : κ A.h = 1 := kq.q1 _ (.inl (.inr rfl))
  have y : ∀ {b n : Nat}, κ b = n → n ≠ 1 → ¬ OnlyH A.h b := fun h h2 e => h2 (by rw [← h]; have e' : _ = A.h := e; rw [e']; exact hA)
  have hAl := (kq.lo A.h (by omega)).2
  have s1 := k1.size
  have hcl := B.lt
  have old : ∀ {b n : Nat}, κ b = n → n ≠ 0 → n ≠ 1 → (if b = c then 1 else if κ b = 1 ∧ b ≠ A.h then 9 else κ b) = n := fun {b n} h h2 h3 => by
    have := (kq.lo b (by omega)).2
    rw [if_neg (by omega), if_neg (by omega)]; exact h
  refine ⟨⟨S1, 0, 0, nilS, nilS, M, sm, tm, O, er, po, en, rt, fu, L, v1, v2, nm, f, I, fun b => if b = c then 1 else if κ b = 1 ∧ b ≠ A.h then 9 else κ b, ⟨⟨[], [], V0 0, fun _ => 0, ⟨0, 0, 0, 0, 0⟩, 0, ⟨B, hM.frame k2 (fun h => h), ?_, rfl, .inl ⟨rfl, rfl⟩, .inl ⟨rfl, rfl⟩, .inl ⟨rfl, rfl⟩, ?_, fun b hb => absurd hb (nil_noB b), fun b hb => absurd hb (nil_noB b), fun b hb => absurd hb (nil_noB b), Nat.zero_le _, fun i => by simp [byteAt], Nat.zero_le _, Nat.zero_le _⟩, rfl, rfl, Nat.le_refl _, Nat.zero_le _, Nat.le_refl _, Nat.le_refl _, fun _ => rfl, .inl ⟨rfl, rfl⟩⟩, hS⟩, X.frame k (y (kq.q2 m (.inl rfl)) (by omega)) (fun c hc => y (kq.q2 c (.inr hc)) (by omega)), mi, h24, fun _ => ⟨rfl, rfl⟩, fun h => (by cases h), kI.frame k (fun b hb => y (kq.q7 b hb) (by omega)), il, B6.frame k (y (kq.q8 _ (.inl rfl)) (by omega)), B11.frame k (y (kq.q8 _ (.inr (.inl rfl))) (by omega)), B12.frame k (y (kq.q8 _ (.inr (.inr rfl))) (by omega)), kk1.frame k (fun b hb => y (kq.q3 b hb) (by omega)), kk2.frame k (fun b hb => y (kq.q4 b hb) (by omega)), le, mn.frame k (fun c hc => hc.elim (fun h => y (kq.q5 c h) (by omega)) (fun ⟨j, hj, h⟩ => y (kq.q6 j hj c h) (by omega))),
    ⟨fun b hb => ?_, fun b hb => old (kq.q2 b hb) (by omega) (by omega), fun b hb => old (kq.q3 b hb) (by omega) (by omega), fun b hb => old (kq.q4 b hb) (by omega) (by omega), fun b hb => old (kq.q5 b hb) (by omega) (by omega), fun j hj b hb => old (kq.q6 j hj b hb) (by omega) (by omega), fun b hb => old (kq.q7 b hb) (by omega) (by omega), fun b hb => old (kq.q8 b hb) (by omega) (by omega), fun b h => ?_⟩⟩, H.ne⟩
  · exact rfl
  · show c ≠ A.h
    omega
  · rcases hb with (hb | hb) | hb | hb
    · exact if_pos hb
    · have hb' : b = A.h := hb
      rw [hb', if_neg (by omega), if_neg (fun h => h.2 rfl)]
      exact hA
    · exact absurd hb (nil_noB b)
    · exact absurd hb (nil_noB b)
  · by_cases g : b = c
    · rw [g]; exact ⟨by omega, hcl⟩
    · rw [if_neg g] at h
      have hk : κ b ≠ 0 := fun e => by
        rw [e, if_neg (by omega)] at h
        exact h rfl
      exact ⟨(kq.lo b hk).1, Nat.lt_of_lt_of_le (kq.lo b hk).2 k.size⟩
end
end Go.Proofs.Qxb6500281aGreat
