/- The model's class: what it needs. -/
import Derived.Test.Qxb6500283aGreatC3
import Derived.Test.Qxb6500283aGreatB8
namespace Go.Proofs.Qxb6500283aGreat
open Go Go.RowKit

def leafM (s : Sg) (res : Except Er (Int × BSet × Nat)) : Res := match res with | .error e => .error e | .ok (k, P, j) => addS ⟨j, s.ns, s.g⟩ (leafNd k P)
set_option maxHeartbeats 1000000 in
theorem setM_err {w : World} {r : Nat} {p : ByteArray} {e : Er} {B : Nat} (P : BSet) (hM : MErr w r p e B) : Calls Tryz.prog 163 #[.pointer (some ⟨r, 0, none⟩), setV P] w (MPost w r p (.error e) B) := by
  have F1 := (Fr.refl (fun b => r ≤ b) w).alloc (.cells #[.int .u64 (wd P 0 : Nat), .int .u64 (wd P 1 : Nat), .int .u64 (wd P 2 : Nat), .int .u64 (wd P 3 : Nat)] 95)
  have hM1 : MErr (w.alloc (.cells #[.int .u64 (wd P 0 : Nat), .int .u64 (wd P 1 : Nat), .int .u64 (wd P 2 : Nat), .int .u64 (wd P 3 : Nat)] 95)) r p e B := by
    obtain ⟨g, nv, G, iv, hb, h⟩ := hM
    exact ⟨g, nv, G, iv, hb.alloc _, h⟩
  unfold setV
  go_enter Tryz.func163, Tryz.ntmps163
  go_wp2_with fail
  refine (addM_err _ _ _ _ _ _ _ _ _ _ _ _ rfl hM1).mono ?_
  rintro v w2 ⟨f2, ⟨u, rfl⟩, hE⟩
  go_wp2_with fail
  go_ret
  exact ⟨F1.trans f2 (fun _ _ h => h), ⟨_, rfl⟩, hE⟩
theorem NdsAt.far {w w' : World} {r : Nat} {nv : Value} {ns : List Nd} (hN : NdsAt w nv ns) (hnr : ∀ b n c, nv = .slice (some ⟨b, 0, none⟩) n c → r < b) (f : Fr (fun b => b = r) w w') : NdsAt w' nv ns :=
  hN.frame f (fun b n c e h => by have := hnr b n c e; omega)
theorem esc_single {p : ByteArray} {i : Nat} {m : BSet} {b j : Nat} (h : esc p i = some (m, true, b, j)) : m = btw b b := by
  by_cases h0 : p.size ≤ i + 1
  · rw [esc_no h0] at h; cases h
  rw [esc_eq (by omega)] at h
  unfold escC one at h
  generalize bt p (i + 1) = c at h
  by_cases c110 : c = 110
  · rw [if_pos c110] at h; cases h; rfl
  rw [if_neg c110] at h
  by_cases c116 : c = 116
  · rw [if_pos c116] at h; cases h; rfl
  rw [if_neg c116] at h
  by_cases c114 : c = 114
  · rw [if_pos c114] at h; cases h; rfl
  rw [if_neg c114] at h
  by_cases c100 : c = 100
  · rw [if_pos c100] at h; cases h
  rw [if_neg c100] at h
  by_cases c68 : c = 68
  · rw [if_pos c68] at h; cases h
  rw [if_neg c68] at h
  by_cases c119 : c = 119
  · rw [if_pos c119] at h; cases h
  rw [if_neg c119] at h
  by_cases c87 : c = 87
  · rw [if_pos c87] at h; cases h
  rw [if_neg c87] at h
  by_cases c115 : c = 115
  · rw [if_pos c115] at h; cases h
  rw [if_neg c115] at h
  by_cases c83 : c = 83
  · rw [if_pos c83] at h; cases h
  rw [if_neg c83] at h
  by_cases c120 : c = 120
  · rw [if_pos c120] at h
    unfold xesc one at h
    by_cases h3 : i + 3 < p.size
    · rw [if_pos h3] at h
      split at h
      · cases h; rfl
      · cases h
    · rw [if_neg h3] at h; cases h
  rw [if_neg c120] at h
  split at h
  · cases h
  · cases h; rfl
theorem item_single {p : ByteArray} {i : Nat} {m : BSet} {b j : Nat} (h : item p i = some (m, true, b, j)) : m = btw b b := by
  by_cases h92 : bt p i = 92
  · rw [item_esc h92] at h; exact esc_single h
  · rw [item_one h92] at h; cases h; rfl
theorem btw_join {lo hi : Nat} (h : lo ≤ hi) : joinP (btw lo lo) (btw lo hi) = btw lo hi := by
  funext x
  simp only [joinP, btw]
  rw [Bool.eq_iff_iff]
  simp only [Bool.or_eq_true, Bool.and_eq_true, decide_eq_true_eq]
  omega
end Go.Proofs.Qxb6500283aGreat
