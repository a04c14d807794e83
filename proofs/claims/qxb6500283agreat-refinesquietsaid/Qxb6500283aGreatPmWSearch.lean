import Derived.Test.Qxb6500283aGreatPmWStep
import Derived.Test.Qxb6500283aGreatPkWApi
namespace Go.Proofs.Qxb6500283aGreat
open Go Go.RowKit

/-- What the machine keeps between calls. -/
structure CInv (s : PS) : Prop where
  l0 : LInv s.f 0 64
  l1 : LInv s.f 1 64
  sp : s.f 261 = 0
  st : 0 ≤ s.f 265

def scanFrom (p : List In) (str : ByteArray) : Nat → Nat → Nat → Bool → PS → Bool × PS
  | 0, _, _, hit, st => (hit, st)
  | m + 1, at_, W, hit, st =>
    let st1 := if hit then st else addSM p str.size W 0 at_ { st with r := upd (cpy st.r 0 (fun _ => -1) 0 8) 0 at_ }
    if st1.f (W * 130 + 128) = 0 then (hit, st1)
    else scanFrom p str m (at_ + 1) (1 - W) (hit || (stepS p str W at_ st1).1) (stepS p str W at_ st1).2
def scanS (p : List In) (str : ByteArray) (from_ : Nat) (s : PS) : Bool × PS :=
  scanFrom p str (str.size + 1 - from_) from_ 0 false { s with f := upd (upd (upd s.f 265 0) 128 0) 258 0 }

theorem PRep.setFar {w : World} {x : Nat} {s : PS} (h : PRep w x s) {b o : Nat} {v : Value} (hb : ¬ pOwn x b) : PRep (w.setCell ⟨b, o, none⟩ v) x s :=
  h.frame (S := fun k => k = b) ((Fr.refl _ _).setC b o v fun _ => rfl) (fun _ hk e => hb (e ▸ hk))
theorem setNew11 {w : World} {x b : Nat} {s : PS} (h : PRep w x s) (hb : x + 6 < b) (v0 v1 v2 v3 v4 v5 v6 v7 v8 v9 v10 : Value) :
    PRep (((((((((((w.setCell ⟨b, 0, none⟩ v0).setCell ⟨b, 1, none⟩ v1).setCell ⟨b, 2, none⟩ v2).setCell ⟨b, 3, none⟩ v3).setCell ⟨b, 4, none⟩ v4).setCell ⟨b, 5, none⟩ v5).setCell ⟨b, 6, none⟩ v6).setCell ⟨b, 7, none⟩ v7).setCell ⟨b, 8, none⟩ v8).setCell ⟨b, 9, none⟩ v9).setCell ⟨b, 10, none⟩ v10) x s := by
  have hn : ¬ pOwn x b := by unfold pOwn; omega
  exact ((((((((((h.setFar hn).setFar hn).setFar hn).setFar hn).setFar hn).setFar hn).setFar hn).setFar hn).setFar hn).setFar hn).setFar hn

set_option maxHeartbeats 1000000 in
theorem search_long {w : World} {x : Nat} {s : PS} (h : PRep w x s) (p : List In) (pb cap : Nat) (str : ByteArray) (from_ : Int) (hsz : 256 < str.size) :
    Calls Tryz.prog 56 #[.pointer (some ⟨x, 0, none⟩), .slice (some ⟨pb, 0, none⟩) p.length cap, .string str, .int .i64 from_] w fun e w' =>
      e = .returned (foundK 12 0 false fun _ => -1) ∧ PRep w' x { s with f := upd s.f 265 0 } ∧ Fr (pOwn x) w w' := by
  have c1 : w.cell? ⟨x, 265, none⟩ = some (.int .i64 (s.f 265)) := h.int (by omega) (by unfold intCell; omega)
  have g1 := h.main.frozen 265
  have b0 := h.main.lt
  have b6 := h.no.lt
  have h1 := h.setF 265 0 (by unfold intCell; omega)
  have f1 := (Fr.refl (pOwn x) w).pset0 265 (.int .i64 0)
  go_enter Tryz.func56, Tryz.ntmps56
  go_wp2_with fail
  refine (refusedK_any _ _ _).mono ?_
  rintro e w1 ⟨rfl, f2⟩
  have hc := f2.newCell (by simp)
  have hf := f2.newFrozen (by simp)
  simp only [World.size_setCell] at hc hf
  have h2 := (h1.alloc _).frame f2 (fun _ _ h => h)
  have f2' := (f1.alloc _).trans f2 (fun _ _ h => h.elim)
  unfold foundK
  go_wp2_with fail
  refine bodyPost_ret (v := foundK 12 0 false fun _ => -1) (by simp [results, Tryz.results56, go_sem, hc, foundK]) rfl ⟨rfl, ?_, ?_⟩
  · exact setNew11 h2 (by omega) _ _ _ _ _ _ _ _ _ _ _
  · repeat' refine Fr.setNew ?_ (Nat.le_refl _)
    exact f2'

theorem stepFrom_spec {p : List In} {str : ByteArray} {W n at_ : Nat} (hok : OkProg p) (hW : W < 2) : ∀ (m k : Nat) (st : PS), k + m = n → TInv p W n st → st.f 261 = 0 →
    TInv p W n (stepFrom p str W at_ m k st).2 ∧ (stepFrom p str W at_ m k st).2.f 261 = 0 ∧ st.f 265 ≤ (stepFrom p str W at_ m k st).2.f 265 ∧ (stepFrom p str W at_ m k st).2.f 265 ≤ st.f 265 + m * 301
  | 0, k, st, _, h, h0 => ⟨h, h0, by simp [stepFrom], by simp [stepFrom]⟩
  | m + 1, k, st, hk, h, h0 => by
    have hm := hok.max
    have hn := h.n
    have hd := h.lW.ds k (by omega)
    have e : p[(st.f (W * 130 + k)).toNat]? = some (p[(st.f (W * 130 + k)).toNat]'(by omega)) := by simp [show (st.f (W * 130 + k)).toNat < p.length by omega]
    have hin := hok.all (st.f (W * 130 + k)).toNat (by omega)
    have ht1 : TInv p W n { st with f := upd st.f 265 (st.f 265 + 1) } :=
      ⟨h.lW.congr hm fun o h1 h2 => by simp [upd, show o ≠ 265 by omega], h.lO.congr hm fun o h1 h2 => by simp [upd, show o ≠ 265 by omega], by simp only [upd, show W * 130 + 128 ≠ 265 by omega, if_false]; exact h.n, by have := h.s0; simp only [upd, if_true]; omega⟩
    have e5 : upd st.f 265 (st.f 265 + 1) 265 = st.f 265 + 1 := by simp [upd]
    have e6 : upd st.f 265 (st.f 265 + 1) 261 = 0 := by simp [upd, h0]
    simp only [stepFrom, e]
    split
    · refine ⟨⟨ht1.lW, ht1.lO, ht1.n, ht1.s0⟩, e6, by simp only [e5]; omega, by simp only [e5]; omega⟩
    · split
      · rename_i hc
        have hpc : (st.f (W * 130 + k)).toNat + 1 < p.length := by unfold okIn at hin; omega
        obtain ⟨a1, a2, a3, a4, a5⟩ := addS_spec (p := p) (W := 1 - W) (V := W) (pc := (st.f (W * 130 + k)).toNat + 1) (size := str.size) (at_ := at_ + 1) (s := ⟨upd st.f 265 (st.f 265 + 1), st.g, st.k, cpy st.r 0 (st.g W) (k * 8) 8, st.b⟩) hok (by omega) hW (by omega) ht1.lO hpc
        simp only [e5] at a4 a5
        obtain ⟨b1, b2, b3, b4⟩ := stepFrom_spec (str := str) (at_ := at_) hok hW m (k + 1) _ (by omega) (TInv.mk (n := n) (ht1.lW.congr hm a3.c) a1 ((a3.c _ (by omega) (by omega)).trans ht1.n) (by have := h.s0; omega)) a2
        exact ⟨b1, b2, by omega, by omega⟩
      · obtain ⟨b1, b2, b3, b4⟩ := stepFrom_spec (str := str) (at_ := at_) hok hW m (k + 1) { st with f := upd st.f 265 (st.f 265 + 1) } (by omega) ht1 e6
        simp only [e5] at b3 b4
        exact ⟨b1, b2, by omega, by omega⟩

theorem stepS_spec {p : List In} {str : ByteArray} {W n at_ : Nat} {s : PS} (hok : OkProg p) (hW : W < 2) (hT : TInv p W n s) (h0 : s.f 261 = 0) :
    TInv p W n (stepS p str W at_ s).2 ∧ (stepS p str W at_ s).2.f 261 = 0 ∧ s.f 265 ≤ (stepS p str W at_ s).2.f 265 ∧ (stepS p str W at_ s).2.f 265 ≤ s.f 265 + n * 301 := by
  have hm := hok.max
  have hT0 : TInv p W n { s with f := upd s.f ((1 - W) * 130 + 128) 0 } :=
    ⟨hT.lW.congr hm fun o h1 h2 => by simp [upd, show o ≠ (1 - W) * 130 + 128 by omega], hT.lO.clear, by simp only [upd, show W * 130 + 128 ≠ (1 - W) * 130 + 128 by omega, if_false]; exact hT.n, by simp only [upd, show (265 : Nat) ≠ (1 - W) * 130 + 128 by omega, if_false]; exact hT.s0⟩
  have e5 : upd s.f ((1 - W) * 130 + 128) 0 265 = s.f 265 := by simp only [upd, show (265 : Nat) ≠ (1 - W) * 130 + 128 by omega, if_false]
  have e6 : upd s.f ((1 - W) * 130 + 128) 0 261 = 0 := by simp only [upd, show (261 : Nat) ≠ (1 - W) * 130 + 128 by omega, if_false]; exact h0
  have := stepFrom_spec (str := str) (at_ := at_) hok hW n 0 _ (by omega) hT0 e6
  unfold stepS
  rw [hT.n, Int.toNat_natCast]
  simp only [e5] at this
  exact this

/-- What a round of Search's loop needs. -/
structure GInv (p : List In) (st : PS) : Prop where
  l0 : LInv st.f 0 p.length
  l1 : LInv st.f 1 p.length
  sp : st.f 261 = 0
  s0 : 0 ≤ st.f 265
theorem GInv.list {p : List In} {st : PS} (h : GInv p st) {W : Nat} (hW : W < 2) : LInv st.f W p.length := by
  rcases (show W = 0 ∨ W = 1 by omega) with rfl | rfl
  · exact h.l0
  · exact h.l1
theorem GInv.of {p : List In} {st : PS} {W : Nat} (hW : W < 2) (h1 : LInv st.f W p.length) (h2 : LInv st.f (1 - W) p.length) (h3 : st.f 261 = 0) (h4 : 0 ≤ st.f 265) : GInv p st := by
  rcases (show W = 0 ∨ W = 1 by omega) with rfl | rfl
  · exact ⟨h1, h2, h3, h4⟩
  · exact ⟨h2, h1, h3, h4⟩
theorem GInv.add {p : List In} {st : PS} {W : Nat} (hok : OkProg p) (hW : W < 2) (h : GInv p st) (size at_ : Int) (r : Nat → Int) :
    GInv p (addSM p size W 0 at_ { st with r := r }) ∧ st.f 265 ≤ (addSM p size W 0 at_ { st with r := r }).f 265 ∧ (addSM p size W 0 at_ { st with r := r }).f 265 ≤ st.f 265 + 300 := by
  obtain ⟨a1, a2, a3, a4, a5⟩ := addS_spec (p := p) (W := W) (V := 1 - W) (pc := 0) (size := size) (at_ := at_) (s := { st with r := r }) hok hW (by omega) (by omega) (h.list hW) hok.pos
  have s0 := h.s0
  simp only at a4 a5
  exact ⟨GInv.of hW a1 ((h.list (W := 1 - W) (by omega)).congr hok.max a3.c) a2 (by omega), a4, a5⟩
theorem GInv.step {p : List In} {st : PS} {W : Nat} (hok : OkProg p) (hW : W < 2) (h : GInv p st) (str : ByteArray) (at_ : Nat) :
    GInv p (stepS p str W at_ st).2 ∧ st.f 265 ≤ (stepS p str W at_ st).2.f 265 ∧ (stepS p str W at_ st).2.f 265 ≤ st.f 265 + 19264 := by
  have hm := hok.max
  obtain ⟨n, hn⟩ := Int.eq_ofNat_of_zero_le (h.list hW).n0
  have hT : TInv p W n st := ⟨h.list hW, h.list (by omega), hn, h.s0⟩
  obtain ⟨b1, b2, b3, b4⟩ := stepS_spec (str := str) (at_ := at_) hok hW hT h.sp
  have n1 := (h.list hW).n1
  exact ⟨GInv.of hW b1.lW b1.lO b2 b1.s0, b3, by omega⟩
end Go.Proofs.Qxb6500283aGreat
