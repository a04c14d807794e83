import Derived.Test.Qxb6500283aGreatPmWSearch
namespace Go.Proofs.Qxb6500283aGreat
open Go Go.RowKit

set_option maxHeartbeats 1000000 in
theorem search_bad {w : World} {x : Nat} {s : PS} (h : PRep w x s) (p : List In) (pb cap : Nat) (hp : PAt w pb p) (hpb : ¬ pOwn x pb) (hlen : p.length < 1000000) (str : ByteArray) (from_ : Int) (hsz : str.size ≤ 256) (hbad : progOK p = false) :
    Calls Tryz.prog 56 #[.pointer (some ⟨x, 0, none⟩), .slice (some ⟨pb, 0, none⟩) p.length cap, .string str, .int .i64 from_] w fun e w' =>
      e = .returned (foundK 9 0 false fun _ => -1) ∧ PRep w' x { s with f := upd s.f 265 0 } ∧ Fr (pOwn x) w w' := by
  have c1 : w.cell? ⟨x, 265, none⟩ = some (.int .i64 (s.f 265)) := h.int (by omega) (by unfold intCell; omega)
  have g1 := h.main.frozen 265
  have b0 := h.main.lt
  have b6 := h.no.lt
  have h1 := h.setF 265 0 (by unfold intCell; omega)
  have f1 := (Fr.refl (pOwn x) w).pset0 265 (.int .i64 0)
  have Hbad : Hid _ := hbad
  clear hbad
  go_enter Tryz.func56, Tryz.ntmps56
  go_wp2_with fail
  refine (progok_any p pb cap (hp.frame (f1.alloc _) hpb) hlen).mono ?_
  rintro e w1 ⟨rfl, f2⟩
  rw [Hbad.out]
  go_wp2_with fail
  refine (refusedK_any _ _ _).mono ?_
  rintro e w2 ⟨rfl, f3⟩
  have f4 := f2.trans f3 (fun _ _ h => h)
  have hc := f4.newCell (by simp)
  have hf := f4.newFrozen (by simp)
  simp only [World.size_setCell] at hc hf
  have h2 := (h1.alloc _).frame f4 (fun _ _ h => h)
  have f2' := (f1.alloc _).trans f4 (fun _ _ h => h.elim)
  unfold foundK
  go_wp2_with fail
  refine bodyPost_ret (v := foundK 9 0 false fun _ => -1) (by simp [results, Tryz.results56, go_sem, hc, foundK]) rfl ⟨rfl, ?_, ?_⟩
  · exact setNew11 h2 (by omega) _ _ _ _ _ _ _ _ _ _ _
  · repeat' refine Fr.setNew ?_ (Nat.le_refl _)
    exact f2'

set_option maxHeartbeats 1000000 in
theorem search_range {w : World} {x : Nat} {s : PS} (h : PRep w x s) (p : List In) (pb cap : Nat) (hp : PAt w pb p) (hpb : ¬ pOwn x pb) (hlen : p.length < 1000000) (str : ByteArray) (from_ : Int) (hsz : str.size ≤ 256) (hgood : progOK p = true) (hr : from_ < 0 ∨ (str.size : Int) < from_) :
    Calls Tryz.prog 56 #[.pointer (some ⟨x, 0, none⟩), .slice (some ⟨pb, 0, none⟩) p.length cap, .string str, .int .i64 from_] w fun e w' =>
      e = .returned (foundK 10 0 false fun _ => -1) ∧ PRep w' x { s with f := upd s.f 265 0 } ∧ Fr (pOwn x) w w' := by
  have c1 : w.cell? ⟨x, 265, none⟩ = some (.int .i64 (s.f 265)) := h.int (by omega) (by unfold intCell; omega)
  have g1 := h.main.frozen 265
  have b0 := h.main.lt
  have b6 := h.no.lt
  have h1 := h.setF 265 0 (by unfold intCell; omega)
  have f1 := (Fr.refl (pOwn x) w).pset0 265 (.int .i64 0)
  have Hgood : Hid _ := hgood
  clear hgood
  by_cases hneg : from_ < 0
  all_goals
    go_enter Tryz.func56, Tryz.ntmps56
    go_wp2_with fail
    refine (progok_any p pb cap (hp.frame (f1.alloc _) hpb) hlen).mono ?_
    rintro e w1 ⟨rfl, f2⟩
    rw [Hgood.out]
    go_wp2_with fail
    refine (refusedK_any _ _ _).mono ?_
    rintro e w2 ⟨rfl, f3⟩
    have f4 := f2.trans f3 (fun _ _ h => h)
    have hc := f4.newCell (by simp)
    have hf := f4.newFrozen (by simp)
    simp only [World.size_setCell] at hc hf
    have h2 := (h1.alloc _).frame f4 (fun _ _ h => h)
    have f2' := (f1.alloc _).trans f4 (fun _ _ h => h.elim)
    unfold foundK
    go_wp2_with fail
    refine bodyPost_ret (v := foundK 10 0 false fun _ => -1) (by simp [results, Tryz.results56, go_sem, hc, foundK]) rfl ⟨rfl, ?_, ?_⟩
    · exact setNew11 h2 (by omega) _ _ _ _ _ _ _ _ _ _ _
    · repeat' refine Fr.setNew ?_ (Nat.le_refl _)
      exact f2'
end Go.Proofs.Qxb6500283aGreat
