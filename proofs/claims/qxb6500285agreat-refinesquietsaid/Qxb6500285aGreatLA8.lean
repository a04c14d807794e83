/- The law: Remember. -/
import Derived.Test.Qxb6500285aGreatLA3
import Derived.Test.Qxb6500285aGreatLA7
import Derived.Test.Qxb6500285aGreatZ1
namespace Go.Proofs.Qxb6500285aGreat
open Go Go.RowKit

def remD (D : Dk) (k : Nat) : Dk := { D with l0 := D.pat, l1 := D.l0, kn := k }
theorem dkCell_rem (D : Dk) (k : Nat) : ∀ o, o < 23 → upd (upd (upd (dkCell D) 3 (.string D.l0)) 2 (.string D.pat)) 4 (.int .i64 (k : Nat)) o = dkCell (remD D k) o := by
  intro o ho
  rcases lt23 ho with rfl | rfl | rfl | rfl | rfl | rfl | rfl | rfl | rfl | rfl | rfl | rfl | rfl | rfl | rfl | rfl | rfl | rfl | rfl | rfl | rfl | rfl | rfl <;> simp [dkCell, upd, remD]
theorem dkCell_rem0 (D : Dk) : ∀ o, o < 23 → upd (upd (dkCell D) 3 (.string D.l0)) 2 (.string D.pat) o = dkCell (remD D D.kn) o := by
  intro o ho
  rcases lt23 ho with rfl | rfl | rfl | rfl | rfl | rfl | rfl | rfl | rfl | rfl | rfl | rfl | rfl | rfl | rfl | rfl | rfl | rfl | rfl | rfl | rfl | rfl | rfl <;> simp [dkCell, upd, remD]
/-- What Remember leaves. -/
def RemPost (w : World) (d : Nat) (D : Dk) (v : Ending) (w' : World) : Prop := v = .returned (.tuple #[]) ∧ Fr (fun c => c = d) w w' ∧ ∃ D', (D' = D ∨ D' = remD D D.kn ∨ (D.kn < 2 ∧ D' = remD D (D.kn + 1))) ∧ Blk w' d 23 (dkCell D')
set_option maxRecDepth 100000 in
set_option maxHeartbeats 8000000 in
theorem remember_any {w : World} {d : Nat} {D : Dk} (hd : Blk w d 23 (dkCell D)) (hk : D.kn ≤ 2) (kind er : Int) :
    Calls Tryz.prog 17 #[.pointer (some ⟨d, 0, none⟩), .int .i64 kind, .int .i64 er] w (RemPost w d D) := by
  have hdl := hd.lt
  have c0 := hd.cell (o := 0) (by omega)
  have c2 := hd.cell (o := 2) (by omega)
  have c3 := hd.cell (o := 3) (by omega)
  have c4 := hd.cell (o := 4) (by omega)
  have zd := hd.frozen
  simp only [dkCell] at c0 c2 c3 c4
  cases ha : asks kind with
  | false =>
    go_enter Tryz.func17, Tryz.ntmps17
    go_wp2_with fail
    refine (asks_any kind w).mono ?_
    rintro v w1 ⟨rfl, rfl⟩
    rw [ha]
    go_wp2_with fail
    refine bodyPost_ret (results_none rfl _ _ _) rfl ?_
    exact ⟨rfl, Fr.refl _ _, D, .inl rfl, hd⟩
  | true =>
    by_cases he : er = 12
    · subst he
      go_enter Tryz.func17, Tryz.ntmps17
      go_wp2_with fail
      refine (asks_any kind w).mono ?_
      rintro v w1 ⟨rfl, rfl⟩
      rw [ha]
      go_wp2_with fail
      refine bodyPost_ret (results_none rfl _ _ _) rfl ?_
      exact ⟨rfl, Fr.refl _ _, D, .inl rfl, hd⟩
    · have te : (er == 12) = false := by simpa using he
      by_cases hp : D.kn = 0
      · rw [hp] at c4
        have key := (((hd.set 3 (.string D.l0)).set 2 (.string D.pat)).set 4 (.int .i64 1)).congr (dkCell_rem D 1)
        have FR := (((Fr.refl (fun c => c = d) w).setC d 3 (.string D.l0) (fun _ => rfl)).setC d 2 (.string D.pat) (fun _ => rfl)).setC d 4 (.int .i64 1) (fun _ => rfl)
        go_enter Tryz.func17, Tryz.ntmps17
        go_wp2_with fail
        refine (asks_any kind w).mono ?_
        rintro v w1 ⟨rfl, rfl⟩
        rw [ha]
        go_wp2_with fail
        refine wp_region_text (by kernel_rfl) (by kernel_rfl) ?_
        go_wp2_with fail
        refine ⟨by kernel_rfl, ?_⟩
        go_wp2_with fail
        refine wp_region_text (by kernel_rfl) (by kernel_rfl) ?_
        go_wp2_with fail
        refine ⟨by kernel_rfl, ?_⟩
        go_wp2_with fail
        refine wp_region_text (by kernel_rfl) (by kernel_rfl) ?_
        go_wp2_with fail
        refine ⟨by kernel_rfl, ?_⟩
        go_wp2_with fail
        go_end0
        exact ⟨rfl, FR.drew.drew.drew, remD D 1, .inr (.inr ⟨by omega, by rw [hp]⟩), key.drew⟩
      · have tk : decide ((0 : Int) < (D.kn : Int)) = true := decide_eq_true (by omega)
        by_cases hs : D.l0 = D.pat
        · have ts : (D.l0.toList == D.pat.toList) = true := by rw [hs]; simp
          go_enter Tryz.func17, Tryz.ntmps17
          go_wp2_with fail
          refine (asks_any kind w).mono ?_
          rintro v w1 ⟨rfl, rfl⟩
          rw [ha]
          go_wp2_with fail
          refine wp_region_text (by kernel_rfl) (by kernel_rfl) ?_
          go_wp2_with fail
          refine ⟨by kernel_rfl, ?_⟩
          go_wp2_with fail
          refine bodyPost_ret (results_none rfl _ _ _) rfl ?_
          exact ⟨rfl, (Fr.refl _ _).drew, D, .inl rfl, hd.drew⟩
        · have ts := strNe hs
          by_cases h2 : D.kn < 2
          · have tk2 : decide ((D.kn : Int) < 2) = true := decide_eq_true (by omega)
            have hkb : (D.kn : Int) ≤ 2 := by omega
            have key := (((hd.set 3 (.string D.l0)).set 2 (.string D.pat)).set 4 (.int .i64 ((D.kn + 1 : Nat) : Int))).congr (dkCell_rem D (D.kn + 1))
            have FR := (((Fr.refl (fun c => c = d) w).setC d 3 (.string D.l0) (fun _ => rfl)).setC d 2 (.string D.pat) (fun _ => rfl)).setC d 4 (.int .i64 ((D.kn + 1 : Nat) : Int)) (fun _ => rfl)
            go_enter Tryz.func17, Tryz.ntmps17
            go_wp2_with fail
            refine (asks_any kind w).mono ?_
            rintro v w1 ⟨rfl, rfl⟩
            rw [ha]
            go_wp2_with fail
            refine wp_region_text (by kernel_rfl) (by kernel_rfl) ?_
            go_wp2_with fail
            refine ⟨by kernel_rfl, ?_⟩
            go_wp2_with fail
            refine wp_region_text (by kernel_rfl) (by kernel_rfl) ?_
            go_wp2_with fail
            refine ⟨by kernel_rfl, ?_⟩
            go_wp2_with fail
            refine wp_region_text (by kernel_rfl) (by kernel_rfl) ?_
            go_wp2_with fail
            refine ⟨by kernel_rfl, ?_⟩
            go_wp2_with fail
            go_end0
            exact ⟨rfl, FR.drew.drew.drew, remD D (D.kn + 1), .inr (.inr ⟨h2, rfl⟩), key.drew⟩
          · have tk2 : decide ((D.kn : Int) < 2) = false := decide_eq_false (by omega)
            have key := ((hd.set 3 (.string D.l0)).set 2 (.string D.pat)).congr (dkCell_rem0 D)
            have FR := ((Fr.refl (fun c => c = d) w).setC d 3 (.string D.l0) (fun _ => rfl)).setC d 2 (.string D.pat) (fun _ => rfl)
            go_enter Tryz.func17, Tryz.ntmps17
            go_wp2_with fail
            refine (asks_any kind w).mono ?_
            rintro v w1 ⟨rfl, rfl⟩
            rw [ha]
            go_wp2_with fail
            refine wp_region_text (by kernel_rfl) (by kernel_rfl) ?_
            go_wp2_with fail
            refine ⟨by kernel_rfl, ?_⟩
            go_wp2_with fail
            refine wp_region_text (by kernel_rfl) (by kernel_rfl) ?_
            go_wp2_with fail
            refine ⟨by kernel_rfl, ?_⟩
            go_wp2_with fail
            refine wp_region_text (by kernel_rfl) (by kernel_rfl) ?_
            go_wp2_with fail
            refine ⟨by kernel_rfl, ?_⟩
            go_wp2_with fail
            go_end0
            exact ⟨rfl, FR.drew.drew.drew, remD D D.kn, .inr (.inl rfl), key.drew⟩
end Go.Proofs.Qxb6500285aGreat
