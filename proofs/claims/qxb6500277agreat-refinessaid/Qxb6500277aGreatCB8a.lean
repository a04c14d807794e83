/- The real checker: the start of a check in memory; the whole check, plainly. -/
import Derived.Test.Qxb6500277aGreatCB7
namespace Go.Proofs.Qxb6500277aGreat
open Go Go.RowKit

theorem NLV.sl {w : World} {v : Value} {ns : List Nd} (h : NLV w v ns) : ∃ a, v = .slice a ns.length ns.length := by
  rcases h with ⟨rfl, rfl⟩ | ⟨b, f, rfl, _⟩
  · exact ⟨_, rfl⟩
  · exact ⟨_, rfl⟩
theorem CM.begin {w : World} {c p nb tb : Nat} {ns : List Nd} {f2 : Nat → Value} {a : Option Addr} (B : Blk w c 420 (upd (upd (upd f2 415 (.slice a ns.length ns.length)) 416 (.slice (some ⟨tb, 0, none⟩) ns.length ns.length)) 417 (.slice (some ⟨tb + 1, 0, none⟩) ns.length ns.length))) (RF2 : ∀ ty rf, RF f2 p ⟨[], []⟩ 0 (blank ty rf) 0 0)
    (hnb : ns ≠ [] → a = some ⟨nb, 0, none⟩ ∧ ∃ g, Blk w nb (ns.length * 8) g ∧ NdP g ns) (BT : Blk w tb ns.length (iL (List.replicate ns.length (-1)))) (BR : Blk w (tb + 1) ns.length (iL (List.replicate ns.length (-1)))) (h1 : c < nb) (h2 : nb < tb) (hl : ns.length ≤ 200) (h8 : Nm8 ns) :
    CM w ⟨c, p, nb, tb, tb + 1, ns⟩ ⟨[], []⟩ 0 (blank (List.replicate ns.length (-1)) (List.replicate ns.length (-1))) 0 0 := by
  refine ⟨⟨_, B, (RF2 _ _).congr (by simp) (fun i hi => by cases hi) (fun k hk => ?_) ?_ ?_, fun hn => ?_, ?_, ?_⟩, fun hn => (hnb hn).2, BT, BR, by simp [blank], by simp [blank], ⟨by show c ≠ nb; omega, by show c ≠ tb; omega, by show c ≠ tb + 1; omega, by show nb ≠ tb; omega, by show nb ≠ tb + 1; omega, by show tb ≠ tb + 1; omega⟩, Good.fresh0 (blank _ _), (fun i hi => by cases hi), XOk.nil ns, rfl, hl, h8, Nat.zero_le _, fun i => by simp [blank, lAt]⟩
  · rw [upd_other _ _ _ _ (by omega), upd_other _ _ _ _ (by omega), upd_other _ _ _ _ (by omega)]
  · rw [upd_other _ _ _ _ (by omega), upd_other _ _ _ _ (by omega), upd_other _ _ _ _ (by omega)]; exact (RF2 [] []).er
  · rw [upd_other _ _ _ _ (by omega), upd_other _ _ _ _ (by omega), upd_other _ _ _ _ (by omega)]; exact (RF2 [] []).po
  · rw [upd_other _ _ _ _ (by omega), upd_other _ _ _ _ (by omega), upd_same, (hnb hn).1]
  · rw [upd_other _ _ _ _ (by omega), upd_same]
  · rw [upd_same]
/-- The state in which the bodies are begun. -/
def bdS (X : Cx) (ns : List Nd) : Ck := { blank (List.replicate ns.length (-1)) (List.replicate ns.length (-1)) with lim := List.replicate X.fs.length (0, 0) }
theorem ckAll_h {gs : List Fnc} {len e p : Int} (h : ckH 0 gs ⟨[], []⟩ = .bad e p) : ckAll gs len = .bad e p := by unfold ckAll; rw [h]
theorem bdS_eq {X : Cx} {ns : List Nd} {gs : List Fnc} (h : ckH 0 gs ⟨[], []⟩ = .ok X) (hn : ns = flFs 0 gs) : bdS X ns = ⟨[], 0, 0, 0, List.replicate gs.length (0, 0), List.replicate (szFs gs) (-1), List.replicate (szFs gs) (-1)⟩ := by
  have := (ckH_ok gs 0 ⟨[], []⟩ X h rfl).1.pre
  unfold bdS blank
  rw [hn, flFs_len, ← this]
  simp
theorem ckAll_b {X : Cx} {ns : List Nd} {gs : List Fnc} {len e p : Int} (h : ckH 0 gs ⟨[], []⟩ = .ok X) (hn : ns = flFs 0 gs) (h2 : ckFs X 0 0 gs (bdS X ns) = .bad e p) : ckAll gs len = .bad e p := by
  unfold ckAll; rw [h]; simp only; rw [← bdS_eq h hn, h2]
theorem ckAll_m {X : Cx} {ns : List Nd} {gs : List Fnc} {len p : Int} {u : Unit} {s : Ck} (h : ckH 0 gs ⟨[], []⟩ = .ok X) (hn : ns = flFs 0 gs) (h2 : ckFs X 0 0 gs (bdS X ns) = .ok u s) (h3 : mainT X gs len = some p) : ckAll gs len = .bad 20 p := by
  unfold ckAll; rw [h]; simp only; rw [← bdS_eq h hn, h2]
  simp only
  unfold mainT at h3
  cases hf : fndF mainB X.fs with
  | none => rw [hf] at h3; injection h3 with h3; simp only [h3]
  | some m =>
    rw [hf] at h3
    simp only at h3 ⊢
    split at h3
    · rename_i hc; rw [if_pos hc]; injection h3 with h3; rw [h3]
    · cases h3
theorem ckAll_o {X : Cx} {ns : List Nd} {gs : List Fnc} {len : Int} {u : Unit} {s : Ck} (h : ckH 0 gs ⟨[], []⟩ = .ok X) (hn : ns = flFs 0 gs) (h2 : ckFs X 0 0 gs (bdS X ns) = .ok u s) (h3 : mainT X gs len = none) : ∃ m, fndF mainB X.fs = some m ∧ ckAll gs len = .ok X s m := by
  unfold ckAll; rw [h]; simp only; rw [← bdS_eq h hn, h2]
  simp only
  unfold mainT at h3
  cases hf : fndF mainB X.fs with
  | none => rw [hf] at h3; cases h3
  | some m =>
    rw [hf] at h3
    simp only at h3 ⊢
    split at h3
    · cases h3
    · rename_i hc; rw [if_neg hc]; exact ⟨m, rfl, rfl⟩
theorem bdS_blank (X : Cx) (ns : List Nd) : Blank (bdS X ns) := ⟨rfl, rfl, rfl, rfl⟩
theorem Lie.all (ns : List Nd) : Lie ns 0 ns := ⟨[], [], by simp, rfl⟩
end Go.Proofs.Qxb6500277aGreat
