/- The emitters: fill, num, back, land, over. -/
import Derived.Test.Qxb6500277aGreatGE3
namespace Go.Proofs.Qxb6500277aGreat
open Go Go.RowKit

/-- Two bytes filled in. -/
def fillL (C : List Nat) (h a : Nat) : List Nat := (C.set h (a % 256)).set (h + 1) (a / 256 % 256)
theorem fillL_len (C : List Nat) (h a : Nat) : (fillL C h a).length = C.length := by simp [fillL]
section
variable {w w' w0 w1 w2 : World} {g : Nat} {P P' S : Nat → Prop} {hd : Nat → Value} {B B' : Gb} {cv hv xv ev : Value} {col : Nat → Nat}
theorem BAt.set {v : Value} {C : List Nat} (h : BAt w v C) {i : Nat} (hi : i < C.length) : ∃ b c, v = .slice (some ⟨b, 0, none⟩) C.length c ∧ C.length ≤ c ∧ b < w.heap.size ∧ w.cell? ⟨b, i, none⟩ = some (.int .u8 (byteAt C i : Nat)) ∧ (∀ o, w.frozen? ⟨b, o, none⟩ = false) ∧ ∀ x : Nat, BAt (w.setCell ⟨b, i, none⟩ (.int .u8 (x : Nat))) v (C.set i x) := by
  rcases h with ⟨_, rfl⟩ | ⟨b, cap, f, rfl, h1, h2, h3⟩
  · simp at hi
  · refine ⟨b, cap, rfl, h1, h2.lt, by rw [h2.cell (by omega), h3 i hi], h2.frozen, fun x => .inr ⟨b, cap, _, by simp, by simpa using h1, h2.set i _, fun j hj => ?_⟩⟩
    simp only [List.length_set] at hj
    unfold upd byteAt
    by_cases e : j = i
    · rw [if_pos e, e]; simp [hi]
    · rw [if_neg e, h3 j hj]
      unfold byteAt
      simp [List.getD_eq_getElem?_getD, show ¬ i = j from fun h => e h.symm]
theorem GY.fillC (H : GY w g P hd B cv hv xv ev col) (k : Fr (isB cv) w w1) {C : List Nat} (hc : BAt w1 cv C) (hle : C.length = B.code.length) : GY w1 g P hd { B with code := C } cv hv xv ev col :=
  ⟨H.blk.frame k (fun h => by have h1 := (H.cc _ h).2; rw [H.pg.2] at h1; cases h1), hc, H.hol.frame k (fun b h h' => by have h1 := (H.ch b h).2; rw [(H.cc b h').2] at h1; cases h1), H.cal.frame k (fun b h h' => by have h1 := (H.cx b h).2; rw [(H.cc b h').2] at h1; cases h1), H.ent.frame k (fun b h h' => by have h1 := (H.ce b h).2; rw [(H.cc b h').2] at h1; cases h1), fun b hb => Nat.lt_of_lt_of_le (H.lt b hb) k.size, H.pg, H.cc, H.ch, H.cx, H.ce, by show B.holes.length ≤ C.length; rw [hle]; exact H.hl, by show B.calls.length ≤ C.length; rw [hle]; exact H.xl⟩
theorem GY.fillH (H : GY w g P hd B cv hv xv ev col) (k : Fr (isB hv) w w1) {C : List Int} (hc : KiAt w1 hv C) (hle : C.length = B.holes.length) : GY w1 g P hd { B with holes := C } cv hv xv ev col :=
  ⟨H.blk.frame k (fun h => by have h1 := (H.ch _ h).2; rw [H.pg.2] at h1; cases h1), H.code.frame k (fun b h h' => by have h1 := (H.cc b h).2; rw [(H.ch b h').2] at h1; cases h1), hc, H.cal.frame k (fun b h h' => by have h1 := (H.cx b h).2; rw [(H.ch b h').2] at h1; cases h1), H.ent.frame k (fun b h h' => by have h1 := (H.ce b h).2; rw [(H.ch b h').2] at h1; cases h1), fun b hb => Nat.lt_of_lt_of_le (H.lt b hb) k.size, H.pg, H.cc, H.ch, H.cx, H.ce, by show C.length ≤ B.code.length; rw [hle]; exact H.hl, H.xl⟩
theorem GY.fillX (H : GY w g P hd B cv hv xv ev col) (k : Fr (isB xv) w w1) {C : List (Nat × Nat)} (hc : FxAt w1 xv C) (hle : C.length = B.calls.length) : GY w1 g P hd { B with calls := C } cv hv xv ev col :=
  ⟨H.blk.frame k (fun h => by have h1 := (H.cx _ h).2; rw [H.pg.2] at h1; cases h1), H.code.frame k (fun b h h' => by have h1 := (H.cc b h).2; rw [(H.cx b h').2] at h1; cases h1), H.hol.frame k (fun b h h' => by have h1 := (H.ch b h).2; rw [(H.cx b h').2] at h1; cases h1), hc, H.ent.frame k (fun b h h' => by have h1 := (H.ce b h).2; rw [(H.cx b h').2] at h1; cases h1), fun b hb => Nat.lt_of_lt_of_le (H.lt b hb) k.size, H.pg, H.cc, H.ch, H.cx, H.ce, H.hl, by show C.length ≤ B.code.length; rw [hle]; exact H.xl⟩
theorem GY.fillE (H : GY w g P hd B cv hv xv ev col) (k : Fr (isB ev) w w1) {C : List Int} (hc : KiAt w1 ev C) (_hle : C.length = B.entry.length) : GY w1 g P hd { B with entry := C } cv hv xv ev col :=
  ⟨H.blk.frame k (fun h => by have h1 := (H.ce _ h).2; rw [H.pg.2] at h1; cases h1), H.code.frame k (fun b h h' => by have h1 := (H.cc b h).2; rw [(H.ce b h').2] at h1; cases h1), H.hol.frame k (fun b h h' => by have h1 := (H.ch b h).2; rw [(H.ce b h').2] at h1; cases h1), H.cal.frame k (fun b h h' => by have h1 := (H.cx b h).2; rw [(H.ce b h').2] at h1; cases h1), hc, fun b hb => Nat.lt_of_lt_of_le (H.lt b hb) k.size, H.pg, H.cc, H.ch, H.cx, H.ce, H.hl, H.xl⟩
open Classical in
/-- A buffer turns: holes. -/
theorem GY.setH (H : GY w g P hd B cv hv xv ev col) (k : Fr (isB hv) w w1) {v : Value} {C : List Int} (hc : KiAt w1 v C) (hb : ∀ b, isB v b → w.heap.size ≤ b ∨ isB hv b) (hw : ∀ b, isB v b → b < w1.heap.size) (hle : C.length ≤ B.code.length) :
    GX (w1.setCell ⟨g, 13, none⟩ v) g (Gw P w (w1.setCell ⟨g, 13, none⟩ v)) hd { B with holes := C } ∧ Fr P w (w1.setCell ⟨g, 13, none⟩ v) := by
  have kk : Fr (fun b => b = g) w1 (w1.setCell ⟨g, 13, none⟩ v) := (Fr.refl _ _).setC g 13 v fun _ => rfl
  have hgc : ¬ isB hv g := fun h => by have h1 := (H.ch g h).2; rw [H.pg.2] at h1; cases h1
  have hgl := H.glt
  have hvg : ∀ b, isB v b → b ≠ g := fun b h e => by
    rcases hb b h with h1 | h1
    · omega
    · exact hgc (e ▸ h1)
  have hn : ∀ b, P b → col b ≠ 2 → ¬ isB v b := fun b hp hc h => by
    rcases hb b h with h1 | h1
    · have := H.lt b hp; omega
    · exact hc (H.ch b h1).2
  refine ⟨⟨cv, v, xv, ev, fun b => if isB v b then 2 else col b, ?_, ?_, ?_, ?_, ?_, ?_, ?_, ?_, ?_, ?_, ?_, ?_, ?_⟩, ?_⟩
  · refine ((H.blk.frame k hgc).set 13 v).congr fun o ho => ?_
    obtain h | h | h | h | h : o < 12 ∨ o = 12 ∨ o = 13 ∨ o = 14 ∨ o = 15 := by omega
    · have q : o ≠ 13 := by omega
      simp only [upd, gC, if_neg q, if_pos h]
    all_goals subst h; rfl
  · exact (H.code.frame k fun b h h' => by have h1 := (H.cc b h).2; rw [(H.ch b h').2] at h1; cases h1).frame kk fun b h e => by have h1 := (H.cc b h).2; rw [e, H.pg.2] at h1; cases h1
  · exact hc.frame kk fun b h => hvg b h
  · exact (H.cal.frame k fun b h h' => by have h1 := (H.cx b h).2; rw [(H.ch b h').2] at h1; cases h1).frame kk fun b h e => by have h1 := (H.cx b h).2; rw [e, H.pg.2] at h1; cases h1
  · exact (H.ent.frame k fun b h h' => by have h1 := (H.ce b h).2; rw [(H.ch b h').2] at h1; cases h1).frame kk fun b h e => by have h1 := (H.ce b h).2; rw [e, H.pg.2] at h1; cases h1
  · exact Gw.lt H.lt (Nat.le_trans k.size kk.size)
  · exact ⟨.inl H.pg.1, by rw [if_neg (fun h => hvg g h rfl)]; exact H.pg.2⟩
  · intro b h
    have h2 := H.cc b h
    exact ⟨.inl h2.1, by rw [if_neg (hn b h2.1 (by rw [h2.2]; decide))]; exact h2.2⟩
  · intro b h
    refine ⟨?_, by rw [if_pos h]⟩
    rcases hb b h with h1 | h1
    · exact .inr ⟨h1, Nat.lt_of_lt_of_le (hw b h) kk.size⟩
    · exact .inl (H.ch b h1).1
  · intro b h
    have h2 := H.cx b h
    exact ⟨.inl h2.1, by rw [if_neg (hn b h2.1 (by rw [h2.2]; decide))]; exact h2.2⟩
  · intro b h
    have h2 := H.ce b h
    exact ⟨.inl h2.1, by rw [if_neg (hn b h2.1 (by rw [h2.2]; decide))]; exact h2.2⟩
  · exact hle
  · exact H.xl
  · exact (k.mono fun b _ h => (H.ch b h).1).trans kk fun b _ e => by rw [e]; exact H.pg.1
open Classical in
/-- A buffer turns: calls. -/
theorem GY.setX (H : GY w g P hd B cv hv xv ev col) (k : Fr (isB xv) w w1) {v : Value} {C : List (Nat × Nat)} (hc : FxAt w1 v C) (hb : ∀ b, isB v b → w.heap.size ≤ b ∨ isB xv b) (hw : ∀ b, isB v b → b < w1.heap.size) (hle : C.length ≤ B.code.length) :
    GX (w1.setCell ⟨g, 14, none⟩ v) g (Gw P w (w1.setCell ⟨g, 14, none⟩ v)) hd { B with calls := C } ∧ Fr P w (w1.setCell ⟨g, 14, none⟩ v) := by
  have kk : Fr (fun b => b = g) w1 (w1.setCell ⟨g, 14, none⟩ v) := (Fr.refl _ _).setC g 14 v fun _ => rfl
  have hgc : ¬ isB xv g := fun h => by have h1 := (H.cx g h).2; rw [H.pg.2] at h1; cases h1
  have hgl := H.glt
  have hvg : ∀ b, isB v b → b ≠ g := fun b h e => by
    rcases hb b h with h1 | h1
    · omega
    · exact hgc (e ▸ h1)
  have hn : ∀ b, P b → col b ≠ 3 → ¬ isB v b := fun b hp hc h => by
    rcases hb b h with h1 | h1
    · have := H.lt b hp; omega
    · exact hc (H.cx b h1).2
  refine ⟨⟨cv, hv, v, ev, fun b => if isB v b then 3 else col b, ?_, ?_, ?_, ?_, ?_, ?_, ?_, ?_, ?_, ?_, ?_, ?_, ?_⟩, ?_⟩
  · refine ((H.blk.frame k hgc).set 14 v).congr fun o ho => ?_
    obtain h | h | h | h | h : o < 12 ∨ o = 12 ∨ o = 13 ∨ o = 14 ∨ o = 15 := by omega
    · have q : o ≠ 14 := by omega
      simp only [upd, gC, if_neg q, if_pos h]
    all_goals subst h; rfl
  · exact (H.code.frame k fun b h h' => by have h1 := (H.cc b h).2; rw [(H.cx b h').2] at h1; cases h1).frame kk fun b h e => by have h1 := (H.cc b h).2; rw [e, H.pg.2] at h1; cases h1
  · exact (H.hol.frame k fun b h h' => by have h1 := (H.ch b h).2; rw [(H.cx b h').2] at h1; cases h1).frame kk fun b h e => by have h1 := (H.ch b h).2; rw [e, H.pg.2] at h1; cases h1
  · exact hc.frame kk fun b h => hvg b h
  · exact (H.ent.frame k fun b h h' => by have h1 := (H.ce b h).2; rw [(H.cx b h').2] at h1; cases h1).frame kk fun b h e => by have h1 := (H.ce b h).2; rw [e, H.pg.2] at h1; cases h1
  · exact Gw.lt H.lt (Nat.le_trans k.size kk.size)
  · exact ⟨.inl H.pg.1, by rw [if_neg (fun h => hvg g h rfl)]; exact H.pg.2⟩
  · intro b h
    have h2 := H.cc b h
    exact ⟨.inl h2.1, by rw [if_neg (hn b h2.1 (by rw [h2.2]; decide))]; exact h2.2⟩
  · intro b h
    have h2 := H.ch b h
    exact ⟨.inl h2.1, by rw [if_neg (hn b h2.1 (by rw [h2.2]; decide))]; exact h2.2⟩
  · intro b h
    refine ⟨?_, by rw [if_pos h]⟩
    rcases hb b h with h1 | h1
    · exact .inr ⟨h1, Nat.lt_of_lt_of_le (hw b h) kk.size⟩
    · exact .inl (H.cx b h1).1
  · intro b h
    have h2 := H.ce b h
    exact ⟨.inl h2.1, by rw [if_neg (hn b h2.1 (by rw [h2.2]; decide))]; exact h2.2⟩
  · exact H.hl
  · exact hle
  · exact (k.mono fun b _ h => (H.cx b h).1).trans kk fun b _ e => by rw [e]; exact H.pg.1
open Classical in
/-- A buffer turns: entry. -/
theorem GY.setE (H : GY w g P hd B cv hv xv ev col) (k : Fr (isB ev) w w1) {v : Value} {C : List Int} (hc : KiAt w1 v C) (hb : ∀ b, isB v b → w.heap.size ≤ b ∨ isB ev b) (hw : ∀ b, isB v b → b < w1.heap.size)  :
    GX (w1.setCell ⟨g, 15, none⟩ v) g (Gw P w (w1.setCell ⟨g, 15, none⟩ v)) hd { B with entry := C } ∧ Fr P w (w1.setCell ⟨g, 15, none⟩ v) := by
  have kk : Fr (fun b => b = g) w1 (w1.setCell ⟨g, 15, none⟩ v) := (Fr.refl _ _).setC g 15 v fun _ => rfl
  have hgc : ¬ isB ev g := fun h => by have h1 := (H.ce g h).2; rw [H.pg.2] at h1; cases h1
  have hgl := H.glt
  have hvg : ∀ b, isB v b → b ≠ g := fun b h e => by
    rcases hb b h with h1 | h1
    · omega
    · exact hgc (e ▸ h1)
  have hn : ∀ b, P b → col b ≠ 4 → ¬ isB v b := fun b hp hc h => by
    rcases hb b h with h1 | h1
    · have := H.lt b hp; omega
    · exact hc (H.ce b h1).2
  refine ⟨⟨cv, hv, xv, v, fun b => if isB v b then 4 else col b, ?_, ?_, ?_, ?_, ?_, ?_, ?_, ?_, ?_, ?_, ?_, ?_, ?_⟩, ?_⟩
  · refine ((H.blk.frame k hgc).set 15 v).congr fun o ho => ?_
    obtain h | h | h | h | h : o < 12 ∨ o = 12 ∨ o = 13 ∨ o = 14 ∨ o = 15 := by omega
    · have q : o ≠ 15 := by omega
      simp only [upd, gC, if_neg q, if_pos h]
    all_goals subst h; rfl
  · exact (H.code.frame k fun b h h' => by have h1 := (H.cc b h).2; rw [(H.ce b h').2] at h1; cases h1).frame kk fun b h e => by have h1 := (H.cc b h).2; rw [e, H.pg.2] at h1; cases h1
  · exact (H.hol.frame k fun b h h' => by have h1 := (H.ch b h).2; rw [(H.ce b h').2] at h1; cases h1).frame kk fun b h e => by have h1 := (H.ch b h).2; rw [e, H.pg.2] at h1; cases h1
  · exact (H.cal.frame k fun b h h' => by have h1 := (H.cx b h).2; rw [(H.ce b h').2] at h1; cases h1).frame kk fun b h e => by have h1 := (H.cx b h).2; rw [e, H.pg.2] at h1; cases h1
  · exact hc.frame kk fun b h => hvg b h
  · exact Gw.lt H.lt (Nat.le_trans k.size kk.size)
  · exact ⟨.inl H.pg.1, by rw [if_neg (fun h => hvg g h rfl)]; exact H.pg.2⟩
  · intro b h
    have h2 := H.cc b h
    exact ⟨.inl h2.1, by rw [if_neg (hn b h2.1 (by rw [h2.2]; decide))]; exact h2.2⟩
  · intro b h
    have h2 := H.ch b h
    exact ⟨.inl h2.1, by rw [if_neg (hn b h2.1 (by rw [h2.2]; decide))]; exact h2.2⟩
  · intro b h
    have h2 := H.cx b h
    exact ⟨.inl h2.1, by rw [if_neg (hn b h2.1 (by rw [h2.2]; decide))]; exact h2.2⟩
  · intro b h
    refine ⟨?_, by rw [if_pos h]⟩
    rcases hb b h with h1 | h1
    · exact .inr ⟨h1, Nat.lt_of_lt_of_le (hw b h) kk.size⟩
    · exact .inl (H.ce b h1).1
  · exact H.hl
  · exact H.xl
  · exact (k.mono fun b _ h => (H.ce b h).1).trans kk fun b _ e => by rw [e]; exact H.pg.1
theorem GY.cne (H : GY w g P hd B cv hv xv ev col) : ¬ isB cv g := fun h => by have h1 := (H.cc g h).2; rw [H.pg.2] at h1; cases h1
end
set_option maxRecDepth 100000 in
set_option maxHeartbeats 1000000 in
theorem fillF {w : World} {g : Nat} {P : Nat → Prop} {hd : Nat → Value} {B : Gb} (h : GX w g P hd B) (x a : Nat) (ha : a < 65536) (hx : x + 1 < B.code.length) (hl : B.code.length ≤ 50000) : Calls Tryz.prog 69 #[.pointer (some ⟨g, 0, none⟩), .int .i64 (x : Nat), .int .i64 (a : Nat)] w (EmR w g P hd { B with code := fillL B.code x a }) := by
  obtain ⟨cv, hv, xv, ev, col, H⟩ := h
  have c12 : w.cell? ⟨g, 12, none⟩ = some cv := H.cl (o := 12) (by omega)
  have hlt := H.glt
  have hz := H.blk.frozen
  obtain ⟨b, c, e1, e2, e3, e4, e5, e6⟩ := H.code.set (i := x) (by omega)
  have e7 := e6 (a % 256)
  obtain ⟨b', c', d1, d2, d3, d4, d5, d6⟩ := e7.set (i := x + 1) (by simpa using hx)
  rw [List.length_set] at d1
  have hbb := e1.symm.trans d1
  injection hbb with hbb hcc
  injection hbb with hbb
  injection hbb with hbb
  subst hbb
  have d7 := d6 (a / 256 % 256)
  have hbg : b ≠ g := fun e => H.cne (by rw [e1, e]; exact ⟨_, _, rfl⟩)
  have F1 : Fr (isB cv) w ((w.setCell ⟨b, x, none⟩ (.int .u8 (a % 256 : Nat))).setCell ⟨b, x + 1, none⟩ (.int .u8 (a / 256 % 256 : Nat))) := ((Fr.refl _ _).setC b x _ (fun _ => by rw [e1]; exact ⟨_, _, rfl⟩)).setC b (x + 1) _ (fun _ => by rw [e1]; exact ⟨_, _, rfl⟩)
  have Y := H.fillC F1 d7 (by simp)
  have hY : EmR w g P hd { B with code := fillL B.code x a } (.returned (.tuple #[])) ((w.setCell ⟨b, x, none⟩ (.int .u8 (a % 256 : Nat))).setCell ⟨b, x + 1, none⟩ (.int .u8 (a / 256 % 256 : Nat))) := ⟨rfl, Y.x.mono (fun _ h => .inl h) (Gw.lt H.lt F1.size), F1.mono fun _ _ h => (H.cc _ h).1⟩
  have f1 : ((a % 256 : Nat) : Int) = (a : Int) % 256 := by omega
  have f2 : ((a / 256 % 256 : Nat) : Int) = (a : Int) / 256 := by omega
  rw [f1, f2] at hY
  rw [f1] at d4
  have HY : Hid _ := hY
  rw [e1] at c12
  have o1 := e4
  have xl : ((x : Int) + 1) < B.code.length := by omega
  clear H Y F1 hY d7 d6 e7 e6 f1 f2 e1 d1 d2 d3 d5 hcc
  go_enter Tryz.func69, Tryz.ntmps69
  go_wp2_with fail
  go_end0
  exact ⟨rfl, HY.out.2⟩
end Go.Proofs.Qxb6500277aGreat
