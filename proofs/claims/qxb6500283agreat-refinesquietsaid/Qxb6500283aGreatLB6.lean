/- The law's start: Ground, the desk. -/
import Derived.Test.Qxb6500283aGreatLB2p
import Derived.Test.Qxb6500283aGreatHF11
import Derived.Test.Qxb6500283aGreatW12
import Derived.Test.Qxb6500283aGreatB13
import Derived.Test.Qxb6500283aGreatPmWNew
namespace Go.Proofs.Qxb6500283aGreat
open Go Go.RowKit

theorem SAny.lt {w : World} {s x : Nat} (h : SAny w s x) : x < w.heap.size ∧ s + 5 < w.heap.size := by
  obtain ⟨⟨out, _, hS⟩, _, hX, _⟩ := h
  have hsl := hS.cells.2.2.2.2
  obtain ⟨f, iv, ns, g, t, r, e, q, hb, _⟩ := hX
  exact ⟨hb.lt, hsl⟩
theorem RAny.lt {w : World} {x : Nat} {p : ByteArray} (h : RAny w x p) : x < w.heap.size := by
  obtain ⟨f, iv, ns, g, t, r, e, q, hb, hL, h2⟩ := h
  exact hb.lt
theorem cinvP0 : CInv ps0 := by
  have h : ∀ W, LInv ps0.f W 64 := fun W => ⟨by simp [ps0], by simp [ps0], fun _ _ => by simp [ps0], fun k hk => by simp [ps0] at hk; omega⟩
  exact ⟨h 0, h 1, rfl, by simp [ps0]⟩
structure Gr (w w' : World) (x sm pk df e : Nat) : Prop where
  ord : w.heap.size ≤ x ∧ x < sm ∧ sm + 5 < pk ∧ pk + 7 ≤ df ∧ df + 3 ≤ e ∧ e < w'.heap.size
  sim : SAny w' sm x
  pr : PRep w' pk ps0
  di : DInv w' df (.slice none 0 0) [] ds0
  en : Blk w' e 13 (eCell sm pk df ent0 ent0)
  fr : Fr (fun _ => False) w w'
theorem Gr.frame {w w' w'' : World} {x sm pk df e : Nat} (h : Gr w w' x sm pk df e) (k : Fr (fun _ => False) w' w'') : Gr w w'' x sm pk df e :=
  ⟨⟨h.ord.1, h.ord.2.1, h.ord.2.2.1, h.ord.2.2.2.1, h.ord.2.2.2.2.1, by have := h.ord.2.2.2.2.2; have := k.size; omega⟩, h.sim.frame k (fun h => h) (fun _ _ h => h), h.pr.frame k (fun _ _ h => h), h.di.frame k, h.en.frame k (fun h => h), h.fr.trans k (fun _ _ h => h)⟩
set_option maxHeartbeats 1000000 in
theorem newE_any (sm pk df : Nat) (w : World) : Calls Tryz.prog 22 #[.pointer (some ⟨sm, 0, none⟩), .pointer (some ⟨pk, 0, none⟩), .pointer (some ⟨df, 0, none⟩)] w fun v w' => v = .returned (.pointer (some ⟨w.heap.size, 0, none⟩)) ∧ Blk w' w.heap.size 13 (eCell sm pk df ent0 ent0) ∧ Fr (fun _ => False) w w' := by
  have hb : Blk (w.alloc (.cells #[.pointer (some ⟨sm, 0, none⟩), .pointer (some ⟨pk, 0, none⟩), .pointer (some ⟨df, 0, none⟩), .bool false, .string ⟨#[]⟩, .slice none 0 0, .int .i64 0, .int .i64 0, .bool false, .string ⟨#[]⟩, .slice none 0 0, .int .i64 0, .int .i64 0] 125)) w.heap.size 13 (eCell sm pk df ent0 ent0) := Blk.new w _ _ _ fun o ho => by
    rcases lt13 (show o < 13 by simpa using ho) with rfl | rfl | rfl | rfl | rfl | rfl | rfl | rfl | rfl | rfl | rfl | rfl | rfl <;> rfl
  have k := (Fr.refl (fun _ => False) w).alloc (.cells #[.pointer (some ⟨sm, 0, none⟩), .pointer (some ⟨pk, 0, none⟩), .pointer (some ⟨df, 0, none⟩), .bool false, .string ⟨#[]⟩, .slice none 0 0, .int .i64 0, .int .i64 0, .bool false, .string ⟨#[]⟩, .slice none 0 0, .int .i64 0, .int .i64 0] 125)
  go_enter Tryz.func22, Tryz.ntmps22
  go_wp2_with fail
  go_ret
  exact ⟨rfl, hb, k⟩
set_option maxRecDepth 100000 in
set_option maxHeartbeats 8000000 in
theorem ground_any (w : World) : Calls Tryz.prog 10 #[] w fun v w' => ∃ x sm pk df e, v = .returned (.agg #[.pointer (some ⟨e, 0, none⟩)]) ∧ Gr w w' x sm pk df e := by
  have hb := bx1 w none
  have k0 := (Fr.refl (fun _ => False) w).alloc (.cells #[.pointer none] 31)
  go_enter Tryz.func10, Tryz.ntmps10
  go_wp2_with fail
  refine (newR_any _).mono ?_
  rintro v w1 ⟨rfl, hR, f1⟩
  simp only [World.size_alloc] at hR ⊢
  have l0 := hR.lt
  go_wp2_with fail
  refine (newS_any hR).mono ?_
  rintro v w2 ⟨rfl, hS, f2⟩
  go_wp2_with fail
  refine (newP_any w2).mono ?_
  rintro v w3 ⟨rfl, hP, f3⟩
  go_wp2_with fail
  refine (new_any w3).mono ?_
  rintro v w4 ⟨rfl, hD, f4⟩
  go_wp2_with fail
  refine (newE_any _ _ _ w4).mono ?_
  rintro v w5 ⟨rfl, hE, f5⟩
  have l1 := hS.lt
  have l2 := hP.no.lt
  have l3 := hD.mach.st.lt
  have l5 := hE.lt
  have s1 := f1.size
  have s2 := f2.size
  have s3 := f3.size
  have s5 := f5.size
  simp only [World.size_alloc] at s1
  have F := (((k0.trans f1 (fun _ _ h => h)).trans f2 (fun _ _ h => h)).trans (f3.trans f4 (fun _ _ h => h)) (fun _ _ h => h)).trans f5 (fun _ _ h => h)
  have hb4 := (((hb.frame f1 (fun h => h)).frame f2 (fun h => h)).frame (f3.trans f4 (fun _ _ h => h)) (fun h => h)).frame f5 (fun h => h)
  have c0 := hb4.cell (o := 0) (by omega)
  have zb := hb4.frozen
  have lb := hb4.lt
  have hs := hb4.set 0 (.pointer (some ⟨w4.heap.size, 0, none⟩))
  have kf := (Fr.refl (fun c => c = w.heap.size) w5).setC w.heap.size 0 (.pointer (some ⟨w4.heap.size, 0, none⟩)) (fun _ => rfl)
  have r0 := hs.cell (o := 0) (by omega)
  simp [upd] at r0
  go_wp2_with fail
  refine bodyPost_ret (v := .agg #[.pointer (some ⟨w4.heap.size, 0, none⟩)]) (by simp [results, Tryz.results10, go_sem, r0]) rfl ⟨w.heap.size + 1, w1.heap.size, w2.heap.size, w3.heap.size, w4.heap.size, rfl, ?_⟩
  have S4 := (((hS.frame f3 (fun h => h) (fun _ _ h => h)).frame f4 (fun h => h) (fun _ _ h => h)).frame f5 (fun h => h) (fun _ _ h => h)).frame kf (by omega) (fun c hc => by unfold SAt at hc; omega)
  have P4 := ((hP.frame f4 (fun _ _ h => h)).frame f5 (fun _ _ h => h)).frame kf (fun c hc => by unfold pOwn at hc; omega)
  have D4 := (hD.frame f5).far kf (fun c hc => by unfold mOwn at hc; omega) (fun c n q e => by cases e)
  have E4 := hE.frame kf (by omega)
  exact ⟨⟨by omega, by omega, by omega, by omega, by omega, by simp only [World.size_setCell]; omega⟩, S4, P4, D4, E4, F.trans kf (fun c hc e => by omega)⟩
def desk0 : Dk := ⟨⟨#[]⟩, ⟨#[]⟩, .slice none 0 0, .slice none 0 0, .slice none 0 0, .slice none 0 0, fun _ => .slice none 0 0, fun _ => .slice none 0 0, 0, 0⟩
def deskO : Obj := .cells #[.string ⟨#[]⟩, .string ⟨#[]⟩, .slice none 0 0, .slice none 0 0, .slice none 0 0, .slice none 0 0, .slice none 0 0, .slice none 0 0, .slice none 0 0, .slice none 0 0, .slice none 0 0, .slice none 0 0, .slice none 0 0, .slice none 0 0, .int .i64 0, .int .i64 0] 45
theorem deskB (w : World) : Blk (w.alloc deskO) w.heap.size 16 (dkCell desk0) := Blk.new w _ _ _ fun o ho => by
  rcases lt16F (show o < 16 by simpa using ho) with rfl | rfl | rfl | rfl | rfl | rfl | rfl | rfl | rfl | rfl | rfl | rfl | rfl | rfl | rfl | rfl <;> rfl
theorem DB0 (c : Nat) : ¬ DB desk0 c := by
  rintro (h | h | h | h | ⟨_, _, h | h⟩) <;> exact nil_no c h
/-- What never turns: where the law's things lie. -/
structure Stat (A : Fa) (B : Ma) (d bb lo : Nat) : Prop where
  far : ∀ c, A.eo c ∨ A.fo c ∨ B.mo c ∨ c = d → lo ≤ c ∧ c ≠ bb
  box : lo ≤ bb ∧ bb < d
theorem Stat.pw {w : World} {A : Fa} {B : Ma} {d bb lo : Nat} {Y : Nat → Prop} {D : Dk} {G K : Nat} (s : Stat A B d bb lo) (L : Law w A B d Y D G K) {c : Nat} (hc : PW A B d D c) : lo ≤ c ∧ c ≠ bb := by
  have h1 := s.box
  rcases hc with h | h | h | h | h | h
  · exact s.far c (.inl h)
  · exact s.far c (.inr (.inl h))
  · exact s.far c (.inr (.inr (.inl h)))
  · exact s.far c (.inr (.inr (.inr h)))
  · have := L.far c (.inl (.inl h)); omega
  · have := L.far c (.inl (.inr (.inr (.inl h)))); omega
theorem law0 {w w3 : World} {x sm pk df e fb bb : Nat} {B : Ma} (hg : Gr w w3 x sm pk df e) (hp : PMem w3 fb e (fb + 1) 0 (fb + 2) []) (hs : SMem w3 (fb + 1) []) (hm : Mod w3 B 0) (h1 : e < bb ∧ bb < fb) (h2 : ∀ c, B.mo c → fb + 3 ≤ c) :
    Law (w3.alloc deskO) ⟨e, sm, x, pk, df, fb, fb + 1, fb + 2⟩ B w3.heap.size (fun _ => False) desk0 0 0 ∧ Stat ⟨e, sm, x, pk, df, fb, fb + 1, fb + 2⟩ B w3.heap.size bb w.heap.size := by
  obtain ⟨⟨o1, o2, o3, o4, o5, o6⟩, hS, hP, hD, he, _⟩ := hg
  have k := (Fr.refl (fun _ => False) w3).alloc deskO
  have hmb := h2 B.mb (.inl rfl)
  have hml := hm.lt (c := B.mb) (.inl rfl)
  have hX : ∀ c, (LX B w3.heap.size desk0 (fun _ => False) c) → fb + 3 ≤ c ∧ c ≤ w3.heap.size := by
    rintro c (h | h | h | h)
    · omega
    · have := h2 c h; have := hm.lt h; omega
    · exact absurd h (DB0 c)
    · exact h.elim
  have hF : ∀ c, (c = fb ∨ c = fb + 1 ∨ c = fb + 2) → e < c ∧ fb ≤ c ∧ c < w3.heap.size := fun c hc => by omega
  have hE : ∀ c, EO e sm x pk df c → w.heap.size ≤ c ∧ c ≤ e := fun c hc => by unfold EO SAt pOwn mOwn at hc; omega
  have hEng : Eng (fun c => LX B w3.heap.size desk0 (fun _ => False) c ∨ (c = fb ∨ c = fb + 1 ∨ c = fb + 2)) (w3.alloc deskO) e sm x pk df ent0 ent0 0 := by
    refine ⟨⟨he.frame k (fun h => h), hS.frame k (fun h => h) (fun _ _ h => h), .no, .no, fun h => (by cases h), ⟨.inr (.inl rfl), .inr (.inr (.inl rfl)), fun c hc => .inr (.inr (.inr (.inl hc)))⟩, fun c hc => (by cases hc), fun c hc => (by cases hc), ?_, by omega, by unfold SAt; omega⟩, ⟨ps0, hP.frame k (fun _ _ h => h), cinvP0⟩, ⟨_, _, ds0, hD.frame k, fun c n q hc => (by cases hc), Nat.le_refl _, Nat.le_refl _, Nat.le_refl _⟩, ?_, by omega⟩
    · rintro c ((hc | hc) | hc)
      · have := hX c hc; simp only [World.size_alloc]; omega
      · have := hF c hc; simp only [World.size_alloc]; omega
      · have := hE c hc; simp only [World.size_alloc]; omega
    · rintro c (hc | hc) hc2
      · have := hX c hc
        have := hE c hc2
        omega
      · have := hF c hc
        have := hE c hc2
        omega
  refine ⟨⟨⟨[], [], ⟨ent0, ent0, hEng⟩, hp.frame k (fun h => h) (fun h => h), hs.frame k (fun h => h), ?_, ?_, ⟨by simp, by simp, by simp⟩, fun c hc hf => by have := hX c hc; unfold Fa.fo at hf; simp only at hf; omega⟩, hm.frame k (fun _ _ h => h), deskB w3, ⟨fun i hi => ⟨0, by omega, .inl ⟨rfl, _, _, rfl⟩⟩, fun i hi => ⟨0, by omega, .inl ⟨rfl, _, _, rfl⟩⟩⟩, fun c hc => hm.lt hc, ?_, ?_, fun _ h => h.elim, Cln.las ⟨rfl, rfl, rfl, rfl⟩ _, by decide, by decide, ⟨Nat.zero_le _, Nat.zero_le _⟩⟩, ⟨?_, by omega⟩⟩
  · simp [AscS]
  · exact ⟨by simp, by simp⟩
  · rintro c (hc | hc)
    · exact absurd hc (DB0 c)
    · exact hc.elim
  · rintro c (hc | hc)
    · exact absurd hc (nil_no c)
    · exact absurd hc (nil_no c)
  · rintro c (hc | hc | hc | hc)
    · have := hE c hc; omega
    · have := hF c hc; omega
    · have := h2 c hc; omega
    · omega
end Go.Proofs.Qxb6500283aGreat
