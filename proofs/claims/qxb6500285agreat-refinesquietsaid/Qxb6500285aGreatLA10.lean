/- The law's start: Ground, New. -/
import Derived.Test.Qxb6500285aGreatLA4
import Derived.Test.Qxb6500285aGreatE7
import Derived.Test.Qxb6500285aGreatW12
import Derived.Test.Qxb6500285aGreatB13
import Derived.Test.Qxb6500285aGreatPmWNew
namespace Go.Proofs.Qxb6500285aGreat
open Go Go.RowKit

theorem SAny.lt {w : World} {s x : Nat} (h : SAny w s x) : x < w.heap.size ∧ s + 5 < w.heap.size := by
  obtain ⟨⟨out, _, hS⟩, _, hX, _⟩ := h
  have hsl := hS.cells.2.2.2.2
  obtain ⟨f, iv, ns, g, t, r, e, q, hb, _⟩ := hX
  exact ⟨hb.lt, hsl⟩
theorem RAny.lt {w : World} {x : Nat} {p : ByteArray} (h : RAny w x p) : x < w.heap.size := by
  obtain ⟨f, iv, ns, g, t, r, e, q, hb, hL, h2⟩ := h
  exact hb.lt
theorem cinvP0 : CInv ps0 := by
  have h : ∀ W, LInv ps0.f W 64 := fun W => ⟨by simp [ps0], by simp [ps0], fun _ _ => by simp [ps0], fun k hk => by simp [ps0] at hk; omega⟩
  exact ⟨h 0, h 1, rfl, by simp [ps0]⟩
theorem bl3 (w : World) (v : Value) : Blk (w.alloc (.cells #[v, v, v] 31)) w.heap.size 3 (fun _ => v) := Blk.new w _ _ _ fun o ho => by
  have ho : o < 3 := by simpa using ho
  obtain rfl | rfl | rfl : o = 0 ∨ o = 1 ∨ o = 2 := by omega
  all_goals rfl
structure Gr (w w' : World) (x sm pk df : Nat) : Prop where
  ord : w.heap.size ≤ x ∧ x < sm ∧ sm + 5 < pk ∧ pk + 7 ≤ df ∧ df + 3 ≤ w'.heap.size
  sim : SAny w' sm x
  pr : PRep w' pk ps0
  di : DInv w' df (.slice none 0 0) [] ds0
  fr : Fr (fun _ => False) w w'
set_option maxRecDepth 100000 in
set_option maxHeartbeats 8000000 in
theorem ground_any (w : World) : Calls Tryz.prog 8 #[] w fun v w' => ∃ x sm pk df, v = .returned (.agg #[.pointer (some ⟨sm, 0, none⟩), .pointer (some ⟨pk, 0, none⟩), .pointer (some ⟨df, 0, none⟩)]) ∧ Gr w w' x sm pk df := by
  have hb := bl3 w (.pointer none)
  have k0 := (Fr.refl (fun _ => False) w).alloc (.cells #[.pointer none, .pointer none, .pointer none] 31)
  go_enter Tryz.func8, Tryz.ntmps8
  go_wp2_with fail
  refine (newR_any _).mono ?_
  rintro v w1 ⟨rfl, hR, f1⟩
  simp only [World.size_alloc] at hR ⊢
  have l0 := hR.lt
  go_wp2_with fail
  refine (newS_any hR).mono ?_
  rintro v w2 ⟨rfl, hS, f2⟩
  go_wp2_with fail
  refine (newP_any w2).mono ?_
  rintro v w3 ⟨rfl, hP, f3⟩
  go_wp2_with fail
  refine (new_any w3).mono ?_
  rintro v w4 ⟨rfl, hD, f4⟩
  have l1 := hS.lt
  have l2 := hP.no.lt
  have l3 := hD.mach.st.lt
  have s1 := f1.size
  have s2 := f2.size
  have s3 := f3.size
  simp only [World.size_alloc] at s1
  have F := ((k0.trans f1 (fun _ _ h => h)).trans f2 (fun _ _ h => h)).trans (f3.trans f4 (fun _ _ h => h)) (fun _ _ h => h)
  have hb4 := ((hb.frame f1 (fun h => h)).frame f2 (fun h => h)).frame (f3.trans f4 (fun _ _ h => h)) (fun h => h)
  have c0 := hb4.cell (o := 0) (by omega)
  have c1 := hb4.cell (o := 1) (by omega)
  have c2 := hb4.cell (o := 2) (by omega)
  have zb := hb4.frozen
  have lb := hb4.lt
  have hs := ((hb4.set 0 (.pointer (some ⟨w1.heap.size, 0, none⟩))).set 1 (.pointer (some ⟨w2.heap.size, 0, none⟩))).set 2 (.pointer (some ⟨w3.heap.size, 0, none⟩))
  have kf := (((Fr.refl (fun c => c = w.heap.size) w4).setC w.heap.size 0 (.pointer (some ⟨w1.heap.size, 0, none⟩)) (fun _ => rfl)).setC w.heap.size 1 (.pointer (some ⟨w2.heap.size, 0, none⟩)) (fun _ => rfl)).setC w.heap.size 2 (.pointer (some ⟨w3.heap.size, 0, none⟩)) (fun _ => rfl)
  have r0 := hs.cell (o := 0) (by omega)
  have r1 := hs.cell (o := 1) (by omega)
  have r2 := hs.cell (o := 2) (by omega)
  simp [upd] at r0 r1 r2
  go_wp2_with fail
  refine bodyPost_ret (v := .agg #[.pointer (some ⟨w1.heap.size, 0, none⟩), .pointer (some ⟨w2.heap.size, 0, none⟩), .pointer (some ⟨w3.heap.size, 0, none⟩)]) (by simp [results, Tryz.results8, go_sem, r0, r1, r2]) rfl ⟨w.heap.size + 1, _, _, _, rfl, ?_⟩
  have S4 := ((hS.frame f3 (fun h => h) (fun _ _ h => h)).frame f4 (fun h => h) (fun _ _ h => h)).frame kf (by omega) (fun c hc => by unfold SAt at hc; omega)
  have P4 := (hP.frame f4 (fun _ _ h => h)).frame kf (fun c hc => by unfold pOwn at hc; omega)
  have D4 := hD.far kf (fun c hc => by unfold mOwn at hc; omega) (fun c n q e => by cases e)
  exact ⟨⟨by omega, by omega, by omega, by omega, by simp only [World.size_setCell]; omega⟩, S4, P4, D4, F.trans kf (fun c hc e => by omega)⟩
set_option maxHeartbeats 1000000 in
theorem newE_any (sm pk df : Nat) (w : World) : Calls Tryz.prog 9 #[.pointer (some ⟨sm, 0, none⟩), .pointer (some ⟨pk, 0, none⟩), .pointer (some ⟨df, 0, none⟩)] w fun v w' => v = .returned (.pointer (some ⟨w.heap.size, 0, none⟩)) ∧ Blk w' w.heap.size 13 (eCell sm pk df ent0 ent0) ∧ Fr (fun _ => False) w w' := by
  have hb : Blk (w.alloc (.cells #[.pointer (some ⟨sm, 0, none⟩), .pointer (some ⟨pk, 0, none⟩), .pointer (some ⟨df, 0, none⟩), .bool false, .string ⟨#[]⟩, .slice none 0 0, .int .i64 0, .int .i64 0, .bool false, .string ⟨#[]⟩, .slice none 0 0, .int .i64 0, .int .i64 0] 68)) w.heap.size 13 (eCell sm pk df ent0 ent0) := Blk.new w _ _ _ fun o ho => by
    rcases lt13 (show o < 13 by simpa using ho) with rfl | rfl | rfl | rfl | rfl | rfl | rfl | rfl | rfl | rfl | rfl | rfl | rfl <;> rfl
  have k := (Fr.refl (fun _ => False) w).alloc (.cells #[.pointer (some ⟨sm, 0, none⟩), .pointer (some ⟨pk, 0, none⟩), .pointer (some ⟨df, 0, none⟩), .bool false, .string ⟨#[]⟩, .slice none 0 0, .int .i64 0, .int .i64 0, .bool false, .string ⟨#[]⟩, .slice none 0 0, .int .i64 0, .int .i64 0] 68)
  go_enter Tryz.func9, Tryz.ntmps9
  go_wp2_with fail
  go_ret
  exact ⟨rfl, hb, k⟩
def desk0 : Dk := ⟨⟨#[]⟩, ⟨#[]⟩, ⟨#[]⟩, ⟨#[]⟩, 0, fun j => if j = 2 then .bool false else .int .i64 0, .slice none 0 0, .slice none 0 0, fun _ => .slice none 0 0, 0⟩
def deskO : Obj := .cells #[.string ⟨#[]⟩, .string ⟨#[]⟩, .string ⟨#[]⟩, .string ⟨#[]⟩, .int .i64 0, .int .i64 0, .int .i64 0, .bool false, .int .i64 0, .int .i64 0, .int .i64 0, .int .i64 0, .int .i64 0, .int .i64 0, .int .i64 0, .int .i64 0, .slice none 0 0, .slice none 0 0, .slice none 0 0, .slice none 0 0, .slice none 0 0, .slice none 0 0, .int .i64 0] 47
theorem deskB (w : World) : Blk (w.alloc deskO) w.heap.size 23 (dkCell desk0) := Blk.new w _ _ _ fun o ho => by
  rcases lt23 (show o < 23 by simpa using ho) with rfl | rfl | rfl | rfl | rfl | rfl | rfl | rfl | rfl | rfl | rfl | rfl | rfl | rfl | rfl | rfl | rfl | rfl | rfl | rfl | rfl | rfl | rfl <;> rfl
theorem LB0 (c : Nat) : ¬ LB desk0 c := by
  rintro (h | h | ⟨k, _, h⟩) <;> exact noBlk c h
theorem law0 {w1 w3 : World} {A : Ad} (hg : Gr w1 w3 A.x A.sm A.pk A.df) (he : Blk w3 A.e 13 (eCell A.sm A.pk A.df ent0 ent0)) (hm : ME w3 A.m A.sx A.mc A.sp 0 0) (hb : Blk w3 A.bb 3 (bbCell A)) (h0 : A.lo ≤ A.x) (h1 : A.df + 3 ≤ A.bb) (h2 : A.bb < A.e) (h3 : A.e < A.sx) (h4 : A.d = w3.heap.size) : Law (w3.alloc deskO) A (fun _ => False) desk0 [] 0 0 0 := by
  obtain ⟨⟨o1, o2, o3, o4, _⟩, hS, hP, hD, _⟩ := hg
  have k := (Fr.refl (fun _ => False) w3).alloc deskO
  have ap := hm.ap
  have hX : ∀ c, LX A (fun _ => False) desk0 c → A.df + 3 ≤ c ∧ c ≤ w3.heap.size ∧ c ≠ A.e := by
    rintro c (h | h | h | h | h)
    · omega
    · omega
    · unfold Ad.mo MO at h; omega
    · exact absurd h (LB0 c)
    · exact h.elim
  have hE : ∀ c, EO A.e A.sm A.x A.pk A.df c → c = A.e ∨ c < A.df + 3 := fun c hc => by unfold EO SAt pOwn mOwn at hc; omega
  have hEng : Eng (LX A (fun _ => False) desk0) (w3.alloc deskO) A.e A.sm A.x A.pk A.df ent0 ent0 0 := by
    refine ⟨⟨he.frame k (fun h => h), hS.frame k (fun h => h) (fun _ _ h => h), .no, .no, fun h => (by cases h), ⟨.inr (.inl rfl), .inr (.inr (.inl rfl)), fun c hc => .inr (.inr (.inr (.inl hc)))⟩, fun c hc => (by cases hc), fun c hc => (by cases hc), ?_, by omega, by unfold SAt; omega⟩, ⟨ps0, hP.frame k (fun _ _ h => h), cinvP0⟩, ⟨_, _, ds0, hD.frame k, fun c n q hc => (by cases hc), Nat.le_refl _, Nat.le_refl _, Nat.le_refl _⟩, ?_, by omega⟩
    · rintro c (hc | hc)
      · have := hX c hc; simp only [World.size_alloc]; omega
      · have := hE c hc; simp only [World.size_alloc]; omega
    · intro c hc hc2
      have := hX c hc
      have := hE c hc2
      omega
  refine ⟨⟨ent0, ent0, hEng⟩, hm.frame k (fun _ _ h => h), ?_, hb.frame k (fun h => h), .inl ⟨rfl, rfl⟩, .inl ⟨rfl, rfl⟩, by simp, fun i hi => ⟨0, by omega, .inl ⟨rfl, rfl⟩⟩, ?_, fun c hc => absurd hc (noBlk c), fun _ h => h.elim, by omega, Nat.le_refl _, by show (0 : Nat) ≤ 129; omega, by show (0 : Nat) ≤ 257; omega, Nat.zero_le _⟩
  · rw [h4]; exact deskB w3
  · rintro c (hc | hc)
    · exact absurd hc (LB0 c)
    · exact hc.elim
end Go.Proofs.Qxb6500285aGreat
