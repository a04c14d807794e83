/- The model's badAt and expand. -/
import Derived.Test.Qxb6500283aGreatHF8
namespace Go.Proofs.Qxb6500283aGreat
open Go Go.RowKit

set_option maxRecDepth 100000 in
set_option maxHeartbeats 8000000 in
theorem badAt_any (t : ByteArray) (ht : t.size ≤ 32) (w : World) : Calls Tryz.prog 41 #[.string t] w fun v w' => (∃ r, v = .returned (.int .i64 r) ∧ Out t 0 r) ∧ w' = w := by
  have htb : (t.size : Int) ≤ 32 := by omega
  go_enter Tryz.func41, Tryz.ntmps41
  go_wp2_with fail
  go_loopg [3] t.size (fun g iv wr => ∃ i : Nat, iv = .int .i64 i ∧ i + g = t.size ∧ (∀ r, Out t i r → Out t 0 r) ∧ wr = w)
  case atStart => exact ⟨0, rfl, by omega, fun r h => h, rfl⟩
  case round =>
    obtain ⟨i, rfl, hg, hO, rfl⟩ := hrel
    have hg' : i + gk = t.size := hg
    have HO : Hid _ := hO
    clear hg hO
    by_cases hlt : i < t.size
    · have hI : decide ((i : Int) < t.size) = true := decide_eq_true (by omega)
      have hib : (i : Int) ≤ 31 := by omega
      by_cases h36 : t[i].toNat = 36
      · have t0 : (t[i].toNat == 36) = true := by simpa using h36
        have t0' : ((t[i].toNat : Int) == 36) = true := by simpa using (show (t[i].toNat : Int) = 36 by omega)
        by_cases h1 : i + 1 < t.size
        · have hJ : decide ((t.size : Int) ≤ (i : Int) + 1) = false := decide_eq_false (by omega)
          have hI1 : decide ((i : Int) + 1 < t.size) = true := decide_eq_true (by omega)
          by_cases hd : t[i + 1].toNat = 36
          · have t2 : (t[i + 1].toNat != 36) = false := by simpa using hd
            have t2' : ((t[i + 1].toNat : Int) != 36) = false := by simpa using (show (t[i + 1].toNat : Int) = 36 by omega)
            go_wp2_with fail
            go_roundg (gk - 2)
            case measure => omega
            case rel => exact ⟨i + 2, by simp; omega, by omega, fun r hr => HO.out r (.esc h1 h36 (.inl hd) hr), rfl⟩
          · have t2 : (t[i + 1].toNat != 36) = true := by simpa using hd
            have t2' : ((t[i + 1].toNat : Int) != 36) = true := by simpa using (fun e : (t[i + 1].toNat : Int) = 36 => hd (by omega))
            by_cases hq : t[i + 1].toNat < 48
            · have t3 : decide ((t[i + 1].toNat : Int) < 48) = true := decide_eq_true (by omega)
              go_wp2_with fail
              go_ret
              exact ⟨⟨_, rfl, HO.out _ (.bad ⟨hlt, h36, fun _ => ⟨hd, .inl hq⟩⟩)⟩, rfl⟩
            · have t3 : decide ((t[i + 1].toNat : Int) < 48) = false := decide_eq_false (by omega)
              by_cases hq2 : 51 < t[i + 1].toNat
              · have t4 : decide (51 < (t[i + 1].toNat : Int)) = true := decide_eq_true (by omega)
                go_wp2_with fail
                go_ret
                exact ⟨⟨_, rfl, HO.out _ (.bad ⟨hlt, h36, fun _ => ⟨hd, .inr hq2⟩⟩)⟩, rfl⟩
              · have t4 : decide (51 < (t[i + 1].toNat : Int)) = false := decide_eq_false (by omega)
                go_wp2_with fail
                go_roundg (gk - 2)
                case measure => omega
                case rel => exact ⟨i + 2, by simp; omega, by omega, fun r hr => HO.out r (.esc h1 h36 (.inr ⟨by omega, by omega⟩) hr), rfl⟩
        · have hJ : decide ((t.size : Int) ≤ (i : Int) + 1) = true := decide_eq_true (by omega)
          go_wp2_with fail
          go_ret
          exact ⟨⟨_, rfl, HO.out _ (.bad ⟨hlt, h36, fun h2 => absurd h2 h1⟩)⟩, rfl⟩
      · have t0 : (t[i].toNat == 36) = false := by simpa using h36
        have t0' : ((t[i].toNat : Int) == 36) = false := by simpa using (fun e : (t[i].toNat : Int) = 36 => h36 (by omega))
        go_wp2_with fail
        go_roundg (gk - 1)
        case measure => omega
        case rel => exact ⟨i + 1, by simp, by omega, fun r hr => HO.out r (.lit hlt h36 hr), rfl⟩
    · have hI : decide ((i : Int) < t.size) = false := decide_eq_false (by omega)
      have hii : i = t.size := by omega
      subst hii
      go_wp2_with fail
      go_ret
      exact ⟨⟨_, rfl, HO.out _ .ok⟩, rfl⟩
theorem app_bytes (o s : ByteArray) (a b : Nat) (h1 : a ≤ b) (h2 : b ≤ s.size) : (o ++ s.extract a b).data.toList = o.data.toList ++ bytes s a (b - a) := by
  have e : bytes s a (b - a) = (s.data.toList.drop a).take (b - a) := by
    apply List.ext_getElem
    · rw [bytes_len, List.length_take, List.length_drop]
      have : s.data.toList.length = s.size := Array.length_toList
      omega
    · intro k hk1 hk2
      rw [bytes_len] at hk1
      have hk : a + k < s.data.size := by have : s.data.size = s.size := rfl; omega
      simp only [bytes, List.getElem_map, List.getElem_range, List.getElem_take, List.getElem_drop, Array.getElem_toList, Array.getD_eq_getD_getElem?, Array.getElem?_eq_getElem hk, Option.getD_some]
  rw [e]
  simp [ByteArray.data_append, ByteArray.data_extract, Array.toList_extract, List.extract_eq_take_drop]
set_option maxRecDepth 100000 in
set_option maxHeartbeats 8000000 in
theorem expand_any (t s : ByteArray) (c : Nat → Int) (hc : CapOk s.size c) (ht : t.size ≤ 32) (hs : s.size ≤ 256) (hO0 : Out t 0 (-1)) (w : World) : Calls Tryz.prog 42 #[.string t, .string s, cpV c] w fun v w' => (∃ x : ByteArray, v = .returned (.string x) ∧ Suf t s c 0 x.data.toList) ∧ Fr (fun _ => False) w w' := by
  unfold cpV
  have htb : (t.size : Int) ≤ 32 := by omega
  have hsb : (s.size : Int) ≤ 256 := by omega
  have hbx0 := capB w c
  have f0 := (Fr.refl (fun _ => False) w).alloc (.cells #[.int .i64 (c 0), .int .i64 (c 1), .int .i64 (c 2), .int .i64 (c 3), .int .i64 (c 4), .int .i64 (c 5), .int .i64 (c 6), .int .i64 (c 7)] 64)
  have HO0 : Hid _ := hO0
  clear hO0
  go_enter Tryz.func42, Tryz.ntmps42
  go_wp2_with fail
  go_loopg [7, 8] t.size (fun g ov iv wr => ∃ (i : Nat) (out : ByteArray), ov = .string out ∧ iv = .int .i64 i ∧ i + g = t.size ∧ out.size ≤ i * 256 ∧ (∀ l, Suf t s c i l → Suf t s c 0 (out.data.toList ++ l)) ∧ (∃ r, Out t i r ∧ r = -1) ∧ Blk wr w.heap.size 8 (fun o => .int .i64 (c o)) ∧ Fr (fun _ => False) w wr)
  case atStart => exact ⟨0, ⟨#[]⟩, rfl, rfl, by omega, by show (0 : Nat) ≤ _; omega, fun l h => h, ⟨_, HO0.out, rfl⟩, hbx0, f0⟩
  case round =>
    obtain ⟨i, out, rfl, rfl, hg, hosz, hO, ⟨_, hR, rfl⟩, hbx, hfr⟩ := hrel
    have hob : (out.size : Int) ≤ 8192 := by omega
    have hg' : i + gk = t.size := hg
    have HO : Hid _ := hO
    clear hg hO hbx0 f0
    by_cases hlt : i < t.size
    · have hI : decide ((i : Int) < t.size) = true := decide_eq_true (by omega)
      have hib : (i : Int) ≤ 31 := by omega
      by_cases h36 : t[i].toNat = 36
      · have t0 : (t[i].toNat != 36) = false := by simpa using h36
        have t0' : ((t[i].toNat : Int) != 36) = false := by simpa using (show (t[i].toNat : Int) = 36 by omega)
        obtain ⟨h1, hcase, hR2⟩ : ∃ h1 : i + 1 < t.size, (t[i + 1].toNat = 36 ∨ (48 ≤ t[i + 1].toNat ∧ t[i + 1].toNat ≤ 51)) ∧ Out t (i + 2) (-1) := by
          generalize hr : (-1 : Int) = r at hR
          cases hR with
          | ok => omega
          | bad hb => omega
          | lit _ h => exact absurd h36 h
          | esc h a b d => exact ⟨h, b, hr ▸ d⟩
        have HR2 : Hid _ := hR2
        clear hR hR2
        have hI1 : decide ((i : Int) + 1 < t.size) = true := decide_eq_true (by omega)
        by_cases hd : t[i + 1].toNat = 36
        · have t2 : (t[i + 1].toNat == 36) = true := by simpa using hd
          have t2' : ((t[i + 1].toNat : Int) == 36) = true := by simpa using (show (t[i + 1].toNat : Int) = 36 by omega)
          have hnew : ∀ l, Suf t s c (i + 2) l → Suf t s c 0 ((out ++ ⟨#[36]⟩).data.toList ++ l) := fun l hl => by
            have e : t[i + 1] = 36 := UInt8.toNat_inj.1 hd
            have := HO.out _ (.dol h1 h36 hd hl)
            rw [e] at this
            simpa [ByteArray.data_append] using this
          have HN : Hid _ := hnew
          clear hnew
          go_wp2_with fail
          go_roundg (gk - 2)
          case measure => omega
          case rel => exact ⟨i + 2, _, rfl, by simp; omega, by omega, by rw [ByteArray.size_append]; show out.size + 1 ≤ _; omega, HN.out, ⟨_, HR2.out, rfl⟩, hbx, hfr⟩
        · have t2 : (t[i + 1].toNat == 36) = false := by simpa using hd
          have t2' : ((t[i + 1].toNat : Int) == 36) = false := by simpa using (fun e : (t[i + 1].toNat : Int) = 36 => hd (by omega))
          obtain ⟨hq, hq2⟩ : 48 ≤ t[i + 1].toNat ∧ t[i + 1].toNat ≤ 51 := hcase.resolve_left hd
          rcases (show t[i + 1].toNat = 48 ∨ t[i + 1].toNat = 49 ∨ t[i + 1].toNat = 50 ∨ t[i + 1].toNat = 51 by omega) with hv4 | hv4 | hv4 | hv4
          · have hcv := hc 0 (by omega)
            simp only [Nat.reduceMul, Nat.reduceAdd] at hcv
            have hcg : ∀ l, Suf t s c (i + 2) l → Suf t s c i (capBy s c 0 ++ l) := fun l hl => by
              have := Suf.grp (s := s) (c := c) h1 h36 hq hq2 hl
              rwa [show t[i + 1].toNat - 48 = 0 by omega] at this
            have HC : Hid _ := hcg
            have g0 := hbx.cell (o := 0) (by omega)
            have g1 := hbx.cell (o := 1) (by omega)
            have lx := hbx.lt
            have hv : (t[i + 1].toNat : Int) = 48 := by omega
            clear hcg
            rcases hcv with ⟨u1, u2⟩ | ⟨u1, u2, u3⟩
            · have U1 : Hid _ := u1
              have d1 : decide (0 ≤ c 0) = false := decide_eq_false (by omega)
              have hx1 : -1 ≤ c 0 := by omega
              clear u1 u2
              go_wp2_with fail
              go_roundg (gk - 2)
              case measure => omega
              case rel => exact ⟨i + 2, out, rfl, by simp; omega, by omega, by omega, fun l hl => (by have := HO.out _ (HC.out l hl); rwa [show capBy s c 0 = [] by unfold capBy; rw [if_pos (by rw [U1.out]; decide)], List.nil_append] at this), ⟨_, HR2.out, rfl⟩, hbx, hfr⟩
            · have d1 : decide (0 ≤ c 0) = true := decide_eq_true u1
              have d2 : decide (0 ≤ c 1) = true := decide_eq_true (by omega)
              have hb1 : c 1 ≤ (s.size : Nat) := u3
              have hcap : ∀ l, Suf t s c (i + 2) l → Suf t s c 0 ((out ++ s.extract (c 0).toNat (c 1).toNat).data.toList ++ l) := fun l hl => by
                have := HO.out _ (HC.out l hl)
                rw [← List.append_assoc] at this
                rwa [app_bytes out s (c 0).toNat (c 1).toNat (by omega) (by omega), show bytes s (c 0).toNat ((c 1).toNat - (c 0).toNat) = capBy s c 0 by unfold capBy; rw [if_neg (by simp only [Nat.reduceMul]; omega)]; simp only [Nat.reduceMul, Nat.reduceAdd]; congr 1; omega]
              have HP : Hid _ := hcap
              clear hcap
              go_wp2_with fail
              refine wp_region_text (by kernel_rfl) (by kernel_rfl) ?_
              go_wp2_with fail
              refine ⟨by kernel_rfl, ?_⟩
              go_wp2_with fail
              go_roundg (gk - 2)
              case measure => omega
              case rel => exact ⟨i + 2, _, rfl, by simp; omega, by omega, by rw [ByteArray.size_append, ByteArray.size_extract]; omega, HP.out, ⟨_, HR2.out, rfl⟩, hbx.drew, hfr.drew⟩
          · have hcv := hc 1 (by omega)
            simp only [Nat.reduceMul, Nat.reduceAdd] at hcv
            have hcg : ∀ l, Suf t s c (i + 2) l → Suf t s c i (capBy s c 1 ++ l) := fun l hl => by
              have := Suf.grp (s := s) (c := c) h1 h36 hq hq2 hl
              rwa [show t[i + 1].toNat - 48 = 1 by omega] at this
            have HC : Hid _ := hcg
            have g0 := hbx.cell (o := 2) (by omega)
            have g1 := hbx.cell (o := 3) (by omega)
            have lx := hbx.lt
            have hv : (t[i + 1].toNat : Int) = 49 := by omega
            clear hcg
            rcases hcv with ⟨u1, u2⟩ | ⟨u1, u2, u3⟩
            · have U1 : Hid _ := u1
              have d1 : decide (0 ≤ c 2) = false := decide_eq_false (by omega)
              have hx1 : -1 ≤ c 2 := by omega
              clear u1 u2
              go_wp2_with fail
              go_roundg (gk - 2)
              case measure => omega
              case rel => exact ⟨i + 2, out, rfl, by simp; omega, by omega, by omega, fun l hl => (by have := HO.out _ (HC.out l hl); rwa [show capBy s c 1 = [] by unfold capBy; rw [if_pos (by rw [U1.out]; decide)], List.nil_append] at this), ⟨_, HR2.out, rfl⟩, hbx, hfr⟩
            · have d1 : decide (0 ≤ c 2) = true := decide_eq_true u1
              have d2 : decide (0 ≤ c 3) = true := decide_eq_true (by omega)
              have hb1 : c 3 ≤ (s.size : Nat) := u3
              have hcap : ∀ l, Suf t s c (i + 2) l → Suf t s c 0 ((out ++ s.extract (c 2).toNat (c 3).toNat).data.toList ++ l) := fun l hl => by
                have := HO.out _ (HC.out l hl)
                rw [← List.append_assoc] at this
                rwa [app_bytes out s (c 2).toNat (c 3).toNat (by omega) (by omega), show bytes s (c 2).toNat ((c 3).toNat - (c 2).toNat) = capBy s c 1 by unfold capBy; rw [if_neg (by simp only [Nat.reduceMul]; omega)]; simp only [Nat.reduceMul, Nat.reduceAdd]; congr 1; omega]
              have HP : Hid _ := hcap
              clear hcap
              go_wp2_with fail
              refine wp_region_text (by kernel_rfl) (by kernel_rfl) ?_
              go_wp2_with fail
              refine ⟨by kernel_rfl, ?_⟩
              go_wp2_with fail
              go_roundg (gk - 2)
              case measure => omega
              case rel => exact ⟨i + 2, _, rfl, by simp; omega, by omega, by rw [ByteArray.size_append, ByteArray.size_extract]; omega, HP.out, ⟨_, HR2.out, rfl⟩, hbx.drew, hfr.drew⟩
          · have hcv := hc 2 (by omega)
            simp only [Nat.reduceMul, Nat.reduceAdd] at hcv
            have hcg : ∀ l, Suf t s c (i + 2) l → Suf t s c i (capBy s c 2 ++ l) := fun l hl => by
              have := Suf.grp (s := s) (c := c) h1 h36 hq hq2 hl
              rwa [show t[i + 1].toNat - 48 = 2 by omega] at this
            have HC : Hid _ := hcg
            have g0 := hbx.cell (o := 4) (by omega)
            have g1 := hbx.cell (o := 5) (by omega)
            have lx := hbx.lt
            have hv : (t[i + 1].toNat : Int) = 50 := by omega
            clear hcg
            rcases hcv with ⟨u1, u2⟩ | ⟨u1, u2, u3⟩
            · have U1 : Hid _ := u1
              have d1 : decide (0 ≤ c 4) = false := decide_eq_false (by omega)
              have hx1 : -1 ≤ c 4 := by omega
              clear u1 u2
              go_wp2_with fail
              go_roundg (gk - 2)
              case measure => omega
              case rel => exact ⟨i + 2, out, rfl, by simp; omega, by omega, by omega, fun l hl => (by have := HO.out _ (HC.out l hl); rwa [show capBy s c 2 = [] by unfold capBy; rw [if_pos (by rw [U1.out]; decide)], List.nil_append] at this), ⟨_, HR2.out, rfl⟩, hbx, hfr⟩
            · have d1 : decide (0 ≤ c 4) = true := decide_eq_true u1
              have d2 : decide (0 ≤ c 5) = true := decide_eq_true (by omega)
              have hb1 : c 5 ≤ (s.size : Nat) := u3
              have hcap : ∀ l, Suf t s c (i + 2) l → Suf t s c 0 ((out ++ s.extract (c 4).toNat (c 5).toNat).data.toList ++ l) := fun l hl => by
                have := HO.out _ (HC.out l hl)
                rw [← List.append_assoc] at this
                rwa [app_bytes out s (c 4).toNat (c 5).toNat (by omega) (by omega), show bytes s (c 4).toNat ((c 5).toNat - (c 4).toNat) = capBy s c 2 by unfold capBy; rw [if_neg (by simp only [Nat.reduceMul]; omega)]; simp only [Nat.reduceMul, Nat.reduceAdd]; congr 1; omega]
              have HP : Hid _ := hcap
              clear hcap
              go_wp2_with fail
              refine wp_region_text (by kernel_rfl) (by kernel_rfl) ?_
              go_wp2_with fail
              refine ⟨by kernel_rfl, ?_⟩
              go_wp2_with fail
              go_roundg (gk - 2)
              case measure => omega
              case rel => exact ⟨i + 2, _, rfl, by simp; omega, by omega, by rw [ByteArray.size_append, ByteArray.size_extract]; omega, HP.out, ⟨_, HR2.out, rfl⟩, hbx.drew, hfr.drew⟩
          · have hcv := hc 3 (by omega)
            simp only [Nat.reduceMul, Nat.reduceAdd] at hcv
            have hcg : ∀ l, Suf t s c (i + 2) l → Suf t s c i (capBy s c 3 ++ l) := fun l hl => by
              have := Suf.grp (s := s) (c := c) h1 h36 hq hq2 hl
              rwa [show t[i + 1].toNat - 48 = 3 by omega] at this
            have HC : Hid _ := hcg
            have g0 := hbx.cell (o := 6) (by omega)
            have g1 := hbx.cell (o := 7) (by omega)
            have lx := hbx.lt
            have hv : (t[i + 1].toNat : Int) = 51 := by omega
            clear hcg
            rcases hcv with ⟨u1, u2⟩ | ⟨u1, u2, u3⟩
            · have U1 : Hid _ := u1
              have d1 : decide (0 ≤ c 6) = false := decide_eq_false (by omega)
              have hx1 : -1 ≤ c 6 := by omega
              clear u1 u2
              go_wp2_with fail
              go_roundg (gk - 2)
              case measure => omega
              case rel => exact ⟨i + 2, out, rfl, by simp; omega, by omega, by omega, fun l hl => (by have := HO.out _ (HC.out l hl); rwa [show capBy s c 3 = [] by unfold capBy; rw [if_pos (by rw [U1.out]; decide)], List.nil_append] at this), ⟨_, HR2.out, rfl⟩, hbx, hfr⟩
            · have d1 : decide (0 ≤ c 6) = true := decide_eq_true u1
              have d2 : decide (0 ≤ c 7) = true := decide_eq_true (by omega)
              have hb1 : c 7 ≤ (s.size : Nat) := u3
              have hcap : ∀ l, Suf t s c (i + 2) l → Suf t s c 0 ((out ++ s.extract (c 6).toNat (c 7).toNat).data.toList ++ l) := fun l hl => by
                have := HO.out _ (HC.out l hl)
                rw [← List.append_assoc] at this
                rwa [app_bytes out s (c 6).toNat (c 7).toNat (by omega) (by omega), show bytes s (c 6).toNat ((c 7).toNat - (c 6).toNat) = capBy s c 3 by unfold capBy; rw [if_neg (by simp only [Nat.reduceMul]; omega)]; simp only [Nat.reduceMul, Nat.reduceAdd]; congr 1; omega]
              have HP : Hid _ := hcap
              clear hcap
              go_wp2_with fail
              refine wp_region_text (by kernel_rfl) (by kernel_rfl) ?_
              go_wp2_with fail
              refine ⟨by kernel_rfl, ?_⟩
              go_wp2_with fail
              go_roundg (gk - 2)
              case measure => omega
              case rel => exact ⟨i + 2, _, rfl, by simp; omega, by omega, by rw [ByteArray.size_append, ByteArray.size_extract]; omega, HP.out, ⟨_, HR2.out, rfl⟩, hbx.drew, hfr.drew⟩
      · have t0 : (t[i].toNat != 36) = true := by simpa using h36
        have t0' : ((t[i].toNat : Int) != 36) = true := by simpa using (fun e : (t[i].toNat : Int) = 36 => h36 (by omega))
        have hR2 : Out t (i + 1) (-1) := by
          generalize hr : (-1 : Int) = r at hR
          cases hR with
          | ok => omega
          | bad hb => omega
          | lit _ _ h => exact hr ▸ h
          | esc _ a _ _ => exact absurd a h36
        have hnew : ∀ l, Suf t s c (i + 1) l → Suf t s c 0 ((out ++ t.extract i (i + 1)).data.toList ++ l) := fun l hl => by
          have := HO.out _ (.lit hlt h36 hl)
          rw [app_bytes out t i (i + 1) (by omega) (by omega), show i + 1 - i = 1 by omega, bytes_one t i hlt]
          simpa using this
        have HN : Hid _ := hnew
        have HR2 : Hid _ := hR2
        clear hnew hR hR2
        go_wp2_with fail
        go_roundg (gk - 1)
        case measure => omega
        case rel => exact ⟨i + 1, _, rfl, by simp, by omega, by rw [ByteArray.size_append, ByteArray.size_extract]; omega, HN.out, ⟨_, HR2.out, rfl⟩, hbx, hfr⟩
    · have hI : decide ((i : Int) < t.size) = false := decide_eq_false (by omega)
      have hii : i = t.size := by omega
      subst hii
      have hfin := HO.out [] .ok
      rw [List.append_nil] at hfin
      go_wp2_with fail
      go_ret
      exact ⟨⟨_, rfl, hfin⟩, hfr⟩
end Go.Proofs.Qxb6500283aGreat
