/- The law: New of both engines; what lies below. -/
import Derived.Test.Qxb6500277aGreatGM26
import Derived.Test.Qxb6500277aGreatGE26
import Derived.Test.Qxb6500277aGreatGK6
import Derived.Test.Qxb6500277aGreatKW11
import Derived.Test.Qxb6500277aGreatKM10
import Derived.Test.Qxb6500277aGreatVL3
namespace Go.Proofs.Qxb6500277aGreat
open Go Go.RowKit

theorem Blk.newAny (w : World) (c : Array Value) (T : TypeId) : Blk (w.alloc (.cells c T)) w.heap.size c.size (fun o => c[o]?.getD undef) := Blk.new w c T _ fun o ho => by simp [ho]
set_option maxRecDepth 100000 in
set_option maxHeartbeats 8000000 in
theorem newC (w : World) (p : Nat) : Calls Tryz.prog 22 #[.pointer (some ⟨p, 0, none⟩)] w fun e w' => ∃ c, e = .returned (.pointer (some ⟨c, 0, none⟩)) ∧ CI w' c p ∧ w.heap.size ≤ c ∧ Fr (fun _ => False) w w' := by
  go_enter Tryz.func22, Tryz.ntmps22
  go_wp2_with fail
  generalize hw : World.alloc _ _ = w1
  have key : ∃ f, Blk w1 w.heap.size 420 f ∧ f 0 = .pointer (some ⟨p, 0, none⟩) ∧ f 415 = .slice none 0 0 ∧ f 416 = .slice none 0 0 ∧ f 417 = .slice none 0 0 := by
    rw [← hw]
    exact ⟨_, Blk.newAny w _ _, rfl, rfl, rfl, rfl⟩
  have F1 : Fr (fun _ => False) w w1 := by rw [← hw]; exact (Fr.refl _ _).alloc _
  obtain ⟨f, B, h0, h1, h2, h3⟩ := key
  clear hw
  have K := clearC B h0
  have hl := B.lt
  refine K.mono ?_
  rintro e w2 ⟨rfl, ⟨f2, B2, R2, e1, e2, e3⟩, F2⟩
  have HR : Hid (CI w2 w.heap.size p) := ⟨f2, _, _, _, _, _, B2, R2 [] [], by rw [e1, h1], by rw [e2, h2], by rw [e3, h3], Good.fresh0 (blank [] []), ⟨[], XOk.nil []⟩, fun i hi => by cases hi⟩
  have HF : Hid (Fr (fun _ => False) w w2) := F1.trans (F2.mono (S' := fun d => d = w.heap.size) (fun _ _ h => h)) (fun d hd e => by omega)
  clear B2 R2 e1 e2 e3 F2 F1 K B h0 h1 h2 h3
  go_wp2_with fail
  go_ret
  exact ⟨_, rfl, HR.out, Nat.le_refl _, HF.out⟩
set_option maxRecDepth 100000 in
set_option maxHeartbeats 1000000 in
/-- genm.New. -/
theorem newMg (w : World) : Calls Tryz.prog 9 #[] w fun x w' => ∃ e, x = .returned (.pointer (some ⟨e, 0, none⟩)) ∧ MReal w' e (fun b => w.heap.size ≤ b ∧ b < w'.heap.size) ∧ Fr (fun _ => False) w w' := by
  go_enter Tryz.func9, Tryz.ntmps9
  go_wp2_with fail
  refine (newMC w).mono ?_
  rintro e w1 ⟨m, q, rfl, M1, f1, hm, hq⟩
  have HM1 : Hid (True ∧ _) := ⟨trivial, And.intro M1 (And.intro f1 (And.intro hm hq))⟩
  clear M1 f1 hm hq
  go_wp2_with fail
  refine (newMF w1).mono ?_
  rintro e w2 ⟨rfl, M2, f2⟩
  obtain ⟨_, M1, f1, hm, hq⟩ := HM1.out
  have s1 := f1.size
  have s2 := f2.size
  have ml := M1.b.lt
  have ql := M1.i.lt
  obtain ⟨O, hp, h1⟩ : ∃ O, MM w2 w1.heap.size ⟨[], []⟩ O ∧ O = fun c => c = w1.heap.size := ⟨_, M2, rfl⟩
  have hl : w1.heap.size < w2.heap.size := by
    obtain ⟨_, _, _, H⟩ := hp
    exact H.lt w1.heap.size (by rw [h1])
  have HX : Hid (∀ w3, Fr (fun _ => False) w2 w3 → Blk w3 w2.heap.size 2 (me2 m w1.heap.size) → MReal w3 w2.heap.size (fun b => w.heap.size ≤ b ∧ b < w3.heap.size) ∧ Fr (fun _ => False) w w3) := fun w3 k B => by
    have s3 := k.size
    have bl := B.lt
    have n1 : ¬ O w2.heap.size := fun h => by rw [h1] at h; have h : _ = _ := h; omega
    have n2 : ¬ O m := fun h => by rw [h1] at h; have h : _ = _ := h; omega
    have n3 : ¬ O q := fun h => by rw [h1] at h; have h : _ = _ := h; omega
    refine ⟨⟨m, q, w1.heap.size, ⟨[], []⟩, O, ⟨B, (M1.frame f2 id id).frame k id id, hp.frame k fun _ _ => id, Nat.zero_le _, n1, n2, n3⟩, fun b hb => ?_, fun b hb => hb.2⟩, (f1.trans f2 fun _ _ => id).trans k fun _ _ => id⟩
    rcases hb with h | h | h | h
    · subst h; exact ⟨by omega, bl⟩
    · subst h; exact ⟨hm, by omega⟩
    · subst h; exact ⟨hq, by omega⟩
    · rw [h1] at h; have h : b = _ := h; subst h; exact ⟨by omega, by omega⟩
  clear hp h1 hl M1 f1 hm hq s1 s2 ml ql f2 M2
  go_wp2_with fail
  go_ret
  have k := (Fr.refl (fun _ => False) w2).alloc (.cells #[.pointer (some ⟨m, 0, none⟩), .pointer (some ⟨w1.heap.size, 0, none⟩)] 79)
  have B := Blk.new w2 #[.pointer (some ⟨m, 0, none⟩), .pointer (some ⟨w1.heap.size, 0, none⟩)] 79 (me2 m w1.heap.size) fun o ho => by
    have ho : o < 2 := ho
    have : o = 0 ∨ o = 1 := by omega
    rcases this with rfl | rfl <;> rfl
  have q := HX.out _ k B
  exact ⟨_, rfl, q.1, q.2⟩
def hd0 (c m : Nat) (o : Nat) : Value := match o with | 0 => .pointer (some ⟨c, 0, none⟩) | 1 => .pointer (some ⟨m, 0, none⟩) | 2 => .slice none 0 0 | 6 => .slice none 0 0 | 7 => .slice none 0 0 | 8 => .slice none 0 0 | _ => .int .i64 0
set_option maxRecDepth 100000 in
set_option maxHeartbeats 1000000 in
/-- gen.New. -/
theorem newGe {w : World} {c p : Nat} {A : Va} {Op : Nat → Prop} {cv iv : Value} (ri : RIx w p Op) (ci : CI w c p) (oc : ¬ Op c) (rv : RV w A cv iv) (ao : ∀ b, Op b → ¬ VQ A cv iv b) (ac : ¬ VQ A cv iv c) :
    Calls Tryz.prog 8 #[.pointer (some ⟨c, 0, none⟩), .pointer (some ⟨A.m, 0, none⟩)] w fun x w' => x = .returned (.pointer (some ⟨w.heap.size, 0, none⟩)) ∧ GEx w' w.heap.size c p A (fun b => b = w.heap.size) Op cv iv (hd0 c A.m) ⟨[], [], [], []⟩ ∧ Fr (fun _ => False) w w' := by
  obtain ⟨am, ham⟩ : ∃ am, am = A.m := ⟨_, rfl⟩
  rw [← ham]
  have HX : Hid (∀ w', Fr (fun _ => False) w w' → Blk w' w.heap.size 16 (gC (hd0 c am) nilS nilS nilS nilS) → GEx w' w.heap.size c p A (fun b => b = w.heap.size) Op cv iv (hd0 c am) ⟨[], [], [], []⟩) := fun w' k B => by
    have bl := B.lt
    have orl : ∀ b, Op b → b < w.heap.size := by obtain ⟨_, _, _, _, H⟩ := ri; exact H.lt
    have cl := ci.lt
    refine ⟨⟨nilS, nilS, nilS, nilS, fun _ => 0, B, .inl ⟨rfl, rfl⟩, .inl ⟨rfl, rfl⟩, .inl ⟨rfl, rfl⟩, .inl ⟨rfl, rfl⟩, fun b hb => by subst hb; exact bl, ⟨rfl, rfl⟩, fun b hb => absurd hb (nil_noB b), fun b hb => absurd hb (nil_noB b), fun b hb => absurd hb (nil_noB b), fun b hb => absurd hb (nil_noB b), Nat.le_refl _, Nat.le_refl _⟩, rfl, by rw [← ham]; rfl, ri.frame k fun _ _ => id, ci.frame k id, oc, rv.frame k fun _ _ => id, fun b hb => ?_, ao, ac, .inl rfl⟩
    have hb : b = w.heap.size := hb
    exact ⟨fun h => by have := orl b h; omega, by omega, fun h => by have := rv.lt h; omega⟩
  clear ri ci oc rv ao ac ham
  go_enter Tryz.func8, Tryz.ntmps8
  go_wp2_with fail
  generalize hw : World.alloc _ _ = w1
  have key : Blk w1 w.heap.size 16 (gC (hd0 c am) nilS nilS nilS nilS) := by
    rw [← hw]
    refine Blk.new w _ _ _ fun o ho => ?_
    have ho : o < 16 := ho
    have : o = 0 ∨ o = 1 ∨ o = 2 ∨ o = 3 ∨ o = 4 ∨ o = 5 ∨ o = 6 ∨ o = 7 ∨ o = 8 ∨ o = 9 ∨ o = 10 ∨ o = 11 ∨ o = 12 ∨ o = 13 ∨ o = 14 ∨ o = 15 := by omega
    rcases this with rfl | rfl | rfl | rfl | rfl | rfl | rfl | rfl | rfl | rfl | rfl | rfl | rfl | rfl | rfl | rfl <;> rfl
  have F1 : Fr (fun _ => False) w w1 := by rw [← hw]; exact (Fr.refl _ _).alloc _
  clear hw
  go_ret
  exact ⟨rfl, HX.out _ F1 key, F1⟩
/-- What lies below. -/
structure Grd (w w' : World) (c p : Nat) (A A2 : Va) (Op : Nat → Prop) : Prop where
  ri : RIx w' p Op
  ci : CI w' c p
  rv : RV w' A nilS nilS
  r2 : RV w' A2 nilS nilS
  od : ∃ n1 n2 n3, (∀ b, Op b → w.heap.size ≤ b ∧ b < n1) ∧ n1 ≤ c ∧ c < n2 ∧ (∀ b, VQ A nilS nilS b → n2 ≤ b ∧ b < n3) ∧ ∀ b, VQ A2 nilS nilS b → n3 ≤ b
  fr : Fr (fun _ => False) w w'
theorem RV.new {w : World} {h m : Nat} (hM : HM w h hsNew) (B : Blk w m 65 (vC ⟨m, h⟩ (fun _ => 0) ⟨0, 0, 0, 0, 0⟩ 0 (V0 0) nilS nilS nilS)) (hn : m ≠ h) : RV w ⟨m, h⟩ nilS nilS :=
  ⟨⟨[], [], V0 0, hsNew, fun _ => 0, ⟨0, 0, 0, 0, 0⟩, 0, ⟨B, hM, rfl, rfl, .inl ⟨rfl, rfl⟩, .inl ⟨rfl, rfl⟩, .inl ⟨rfl, rfl⟩, hn, fun b hb => absurd hb (nil_noB b), fun b hb => absurd hb (nil_noB b), fun b hb => absurd hb (nil_noB b), Nat.zero_le _, fun i => by simp [byteAt], Nat.zero_le _, Nat.zero_le _⟩, _, new_rel⟩⟩
theorem VQ.nil {A : Va} {b : Nat} (h : VQ A nilS nilS b) : b = A.m ∨ b = A.h := by
  rcases h with h | h | h
  · exact h
  · exact absurd h (nil_noB b)
  · exact absurd h (nil_noB b)
set_option maxRecDepth 100000 in
set_option maxHeartbeats 2000000 in
theorem groundG (w : World) : Calls Tryz.prog 7 #[] w fun e w' => ∃ c p A A2 Op, e = .returned (.agg #[.pointer (some ⟨c, 0, none⟩), .pointer (some ⟨A.m, 0, none⟩), .pointer (some ⟨A2.m, 0, none⟩)]) ∧ Grd w w' c p A A2 Op := by
  go_enter Tryz.func7, Tryz.ntmps7
  go_upto_region 1 with fail
  generalize hw0 : World.alloc w _ = w0
  have B0 : Blk w0 w.heap.size 3 (fun _ => .pointer none) := by
    rw [← hw0]
    exact Blk.new w _ _ _ fun o ho => by
      have : o < 3 := ho
      have : o = 0 ∨ o = 1 ∨ o = 2 := by omega
      rcases this with rfl | rfl | rfl <;> rfl
  have f0 : Fr (fun _ => False) w w0 := by rw [← hw0]; exact (Fr.refl _ _).alloc _
  clear hw0
  have hb0 := B0.lt
  go_wp2_with fail
  refine (newL w0).mono ?_
  rintro e w1 ⟨rfl, L1, f1⟩
  obtain ⟨lx, hlx⟩ : ∃ lx, w0.heap.size + 1 = lx := ⟨_, rfl⟩
  rw [hlx] at L1 ⊢
  have hN := newR L1
  have H1 : Hid (True ∧ _) := ⟨trivial, And.intro B0 (And.intro f0 (And.intro hb0 (And.intro L1 (And.intro f1 hlx))))⟩
  clear B0 f0 hb0 L1 f1 hlx
  go_wp2_with fail
  refine hN.mono ?_
  rintro e w2 ⟨p, rfl, R2, f2, hp⟩
  clear hN
  have H2 : Hid (True ∧ _) := ⟨trivial, And.intro R2 (And.intro f2 hp)⟩
  clear R2 f2 hp
  go_wp2_with fail
  refine (newC w2 p).mono ?_
  rintro e w3 ⟨c, rfl, C3, hc, f3⟩
  have H3 : Hid (True ∧ _) := ⟨trivial, And.intro C3 (And.intro hc f3)⟩
  clear C3 hc f3
  go_wp2_with fail
  refine (newHF w3).mono ?_
  rintro e w4 ⟨rfl, M4, f4⟩
  have H4 : Hid (True ∧ _) := ⟨trivial, And.intro M4 f4⟩
  clear M4 f4
  go_wp2_with fail
  refine (newF8 (h := w3.heap.size) w4).mono ?_
  rintro e w5 ⟨rfl, f5, s5, B5⟩
  have H5 : Hid (True ∧ _) := ⟨trivial, And.intro f5 (And.intro s5 B5)⟩
  clear f5 s5 B5
  go_wp2_with fail
  refine (newHF w5).mono ?_
  rintro e w6 ⟨rfl, M6, f6⟩
  have H6 : Hid (True ∧ _) := ⟨trivial, And.intro M6 f6⟩
  clear M6 f6
  go_wp2_with fail
  refine (newF8 (h := w5.heap.size) w6).mono ?_
  rintro e w7 ⟨rfl, f7, s7, B7⟩
  obtain ⟨_, B0, f0, hb0, L1, f1, hlx⟩ := H1.out
  obtain ⟨_, R2, f2, hp⟩ := H2.out
  obtain ⟨_, C3, hc, f3⟩ := H3.out
  obtain ⟨_, M4, f4⟩ := H4.out
  obtain ⟨_, f5, s5, B5⟩ := H5.out
  obtain ⟨_, M6, f6⟩ := H6.out
  have k67 := f6.trans f7 fun _ _ => id
  have k57 := f5.trans k67 fun _ _ => id
  have k47 := f4.trans k57 fun _ _ => id
  have k37 := f3.trans k47 fun _ _ => id
  have k27 := f2.trans k37 fun _ _ => id
  have k17 := f1.trans k27 fun _ _ => id
  have h4l := HM.lt M4
  have h6l := HM.lt M6
  have cl := C3.lt
  have rl : ∀ b, (b = lx ∨ b = w0.heap.size ∨ (w1.heap.size ≤ b ∧ b < w2.heap.size)) → b < w2.heap.size := by obtain ⟨_, _, _, _, H⟩ := R2; exact H.lt
  have z0 := f0.size
  have z1 := f1.size
  have z2 := f2.size
  have z3 := f3.size
  have z4 := f4.size
  have z5 := f5.size
  have z6 := f6.size
  have z7 := f7.size
  have B07 := B0.frame k17 id
  have HG : Hid (∀ w8, Fr (fun b => b = w.heap.size) w7 w8 → Grd w w8 c p ⟨w4.heap.size, w3.heap.size⟩ ⟨w6.heap.size, w5.heap.size⟩ (fun b => b = lx ∨ b = w0.heap.size ∨ (w1.heap.size ≤ b ∧ b < w2.heap.size))) := fun w8 k => by
    have v1 := (RV.new (M4.frame f5 id) B5 (by omega)).frame k67 fun _ _ => id
    have v2 := RV.new (M6.frame f7 id) B7 (by omega)
    refine ⟨(R2.frame k37 fun _ _ => id).frame k fun b hb e => ?_, (C3.frame k47 id).frame k (by omega), v1.frame k fun b hb e => ?_, v2.frame k fun b hb e => ?_, ⟨w2.heap.size, w3.heap.size, w5.heap.size, fun b hb => ⟨?_, rl b hb⟩, hc, cl, fun b hb => ?_, fun b hb => ?_⟩, (f0.trans k17 fun _ _ => id).trans k fun b hb e => by omega⟩
    · rcases hb with h | h | h <;> omega
    · have : b = w4.heap.size ∨ b = w3.heap.size := hb.nil
      omega
    · have : b = w6.heap.size ∨ b = w5.heap.size := hb.nil
      omega
    · rcases hb with h | h | h <;> omega
    · have : b = w4.heap.size ∨ b = w3.heap.size := hb.nil
      omega
    · have : b = w6.heap.size ∨ b = w5.heap.size := hb.nil
      omega
  have c0 := B07.cell (o := 0) (by omega)
  have c1 := B07.cell (o := 1) (by omega)
  have c2 := B07.cell (o := 2) (by omega)
  have cz := B07.frozen
  have cl0 := B07.lt
  have HB : Hid (True ∧ _) := ⟨trivial, B07⟩
  clear R2 f2 hp C3 hc f3 M4 f4 f5 s5 B5 M6 f6 f7 s7 B7 L1 f1 f0 B0 k67 k57 k47 k37 k27 k17 rl B07 h4l h6l cl z0 z1 z2 z3 z4 z5 z6 z7 hlx hb0
  go_wp2_with fail
  have B8 := ((HB.out.2.set 0 (.pointer (some ⟨c, 0, none⟩))).set 1 (.pointer (some ⟨w4.heap.size, 0, none⟩))).set 2 (.pointer (some ⟨w6.heap.size, 0, none⟩))
  have F8 := (((Fr.refl (fun b => b = w.heap.size) w7).setC w.heap.size 0 (.pointer (some ⟨c, 0, none⟩)) fun _ => rfl).setC w.heap.size 1 (.pointer (some ⟨w4.heap.size, 0, none⟩)) fun _ => rfl).setC w.heap.size 2 (.pointer (some ⟨w6.heap.size, 0, none⟩)) fun _ => rfl
  have q0 := B8.cell (o := 0) (by omega)
  have q1 := B8.cell (o := 1) (by omega)
  have q2 := B8.cell (o := 2) (by omega)
  simp [upd] at q0 q1 q2
  refine bodyPost_ret (v := .agg #[.pointer (some ⟨c, 0, none⟩), .pointer (some ⟨w4.heap.size, 0, none⟩), .pointer (some ⟨w6.heap.size, 0, none⟩)]) (by simp [results, Tryz.results7, go_sem, q0, q1, q2]) rfl ?_
  exact ⟨c, p, ⟨w4.heap.size, w3.heap.size⟩, ⟨w6.heap.size, w5.heap.size⟩, _, rfl, HG.out _ F8⟩
end Go.Proofs.Qxb6500277aGreat
