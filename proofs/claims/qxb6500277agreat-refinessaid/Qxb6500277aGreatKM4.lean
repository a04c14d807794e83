/- The model heap: Dup, Set, the fields. -/
import Derived.Test.Qxb6500277aGreatKM3
import Derived.Test.Qxb6500277aGreatText3
namespace Go.Proofs.Qxb6500277aGreat
open Go Go.RowKit

section
variable {w : World} {m : Nat} {M : MS} {O : Nat → Prop}
/-- The object in slot i of the model. -/
theorem atM_obj (mi : MInv M) (i : Int) : ((atM M i).2 ≠ 0 ∧ ((atM M i) = (-1, 2) ∨ (atM M i) = (-1, 4))) ∨ ∃ x : Nat, atM M i = ((x : Int), 0) ∧ x < M.objs.length := by
  rcases atM_cases M i with ⟨_, e1⟩ | ⟨k, rfl, hk, ⟨h0, e1⟩ | ⟨h0, e1⟩⟩
  · exact .inl ⟨by rw [e1]; decide, .inl e1⟩
  · exact .inl ⟨by rw [e1]; decide, .inr e1⟩
  · rcases mi.rts _ (List.getElem_mem hk) with h | ⟨_, h⟩
    · omega
    · exact .inr ⟨M.rt[k].toNat, by rw [e1]; congr 1; omega, by omega⟩
set_option maxRecDepth 100000 in
set_option maxHeartbeats 4000000 in
theorem setMF (H : MM w m M O) (h24 : M.rt.length ≤ 24) (n : Int) : Calls Tryz.prog 140 #[.pointer (some ⟨m, 0, none⟩), .int .i64 n] w fun e w' => e = .returned (.int .i64 (setM M n).1) ∧ MM w' m (setM M n).2 (Gw O w w') ∧ Fr O w w' := by
  have hG : MM w m M (Gw O w w) := H.grow (Nat.le_refl _)
  obtain ⟨ov, rv, f, V⟩ := H
  obtain ⟨c0, c1, hlt, hz⟩ := V.cells
  unfold setM
  by_cases hf : n < 0 ∨ (M.rt.length : Int) - 1 ≤ n
  · rw [if_pos hf]
    have hf2 : n < 0 ∨ (0 ≤ n ∧ (M.rt.length : Int) - 1 ≤ n) := by omega
    clear hf
    obtain ⟨ra, rc, hrv, hrc⟩ := V.rt.sl
    rw [hrv] at c1
    rcases hf2 with hf | ⟨hn, hf⟩
    all_goals
      go_enter Tryz.func140, Tryz.ntmps140
      go_wp2_with fail
      go_ret
      exact ⟨rfl, hG, Fr.refl _ _⟩
  · rw [if_neg hf]
    obtain ⟨k, rfl⟩ := Int.eq_ofNat_of_zero_le (show 0 ≤ n by omega)
    simp only [Int.toNat_natCast]
    obtain ⟨t, hT⟩ : ∃ t, M.rt.length = t + 1 := ⟨M.rt.length - 1, by omega⟩
    have hkt : k < t := by omega
    have hmO := V.om
    obtain ⟨b, cap, hrv, hbl, cb, cbz⟩ := V.rt.get (i := t) (by omega)
    obtain ⟨b2, cap2, e2, hcap, hb2, ho2, hm2, cb2, cz2, VS⟩ := V.setRt (i := k) (by omega)
    rw [hrv] at e2
    cases e2
    have V1 := VS M.rt[t]
    have k1 := (Fr.refl O w).setC b k (.int .i64 M.rt[t]) (fun _ => ho2)
    have hK := V1.rt
    rw [hrv] at hK
    have hT2 := KiAt.take (q := M.rt.set k M.rt[t]) (k := t) (by simpa using hK) (by simp; omega)
    have V2 := V1.newRt hT2 (fun c hc => by rw [isB_one hc, hrv]; exact ⟨_, _, rfl⟩)
    have k2 := k1.setC m 1 (.slice (some ⟨b, 0, none⟩) t cap) (fun _ => hmO)
    obtain ⟨d0, d1, dl, dz⟩ := V1.cells
    have ee : (M.rt.set k (M.rt[M.rt.length - 1]?.getD 0)).take (M.rt.length - 1) = (M.rt.set k M.rt[t]).take t := by
      rw [show M.rt.length - 1 = t by omega, List.getElem?_eq_getElem (by omega)]
      rfl
    rw [ee]
    have Hk : Hid (_ ∧ _) := ⟨V2, k2⟩
    generalize M.rt[t] = xx at *
    rw [hrv, hT] at c1 d1
    have et : ((t + 1 : Nat) : Int) - 1 = (t : Nat) := by omega
    have ht24 : t + 1 ≤ 24 := by omega
    have hcap3 : t + 1 ≤ cap := by omega
    obtain ⟨y, cy⟩ : ∃ y, w.cell? ⟨b, k, none⟩ = some (.int .i64 y) := ⟨_, cb2⟩
    clear cb2
    clear V1 k1 hT2 hK hf VS V2 k2 ee
    go_enter Tryz.func140, Tryz.ntmps140
    go_wp2_with fail
    refine wp_region_text (by kernel_rfl) (by kernel_rfl) ?_
    go_wp2_with fail
    refine ⟨by kernel_rfl, ?_⟩
    go_wp2_with fail
    refine wp_region_text (by kernel_rfl) (by kernel_rfl) ?_
    go_wp2_with fail
    refine ⟨by kernel_rfl, ?_⟩
    go_wp2_with fail
    go_ret
    exact ⟨rfl, (MM.same ⟨_, _, _, Hk.out.1⟩ (((Fr.refl (fun _ => False) _).drew).drew)).grow ((Hk.out.2.drew).drew).size, (Hk.out.2.drew).drew⟩
set_option maxRecDepth 100000 in
set_option maxHeartbeats 4000000 in
theorem lenMF (H : MM w m M O) (mi : MInv M) (h24 : M.rt.length ≤ 24) (i : Int) : Calls Tryz.prog 139 #[.pointer (some ⟨m, 0, none⟩), .int .i64 i] w fun e w' => e = .returned (.tuple #[.int .i64 (lenM M i).1, .int .i64 (lenM M i).2.1, .int .i64 (lenM M i).2.2]) ∧ Fr (fun _ => False) w w' := by
  have hA := atMF H h24 i
  obtain ⟨ov, rv, f, V⟩ := H
  obtain ⟨c0, c1, hlt, hz⟩ := V.cells
  unfold lenM
  rcases atM_obj mi i with ⟨he, e1 | e1⟩ | ⟨x, e1, hx⟩
  · rw [e1] at hA ⊢
    simp only
    clear he
    go_enter Tryz.func139, Tryz.ntmps139
    go_wp2_with fail
    refine hA.mono ?_
    rintro e w1 ⟨rfl, rfl⟩
    go_wp2_with fail
    exact bodyPost_ret (v := .tuple #[.int .i64 0, .int .i64 0, .int .i64 2]) (by simp [results, Tryz.results139, go_sem]) rfl ⟨rfl, Fr.refl _ _⟩
  · rw [e1] at hA ⊢
    simp only
    clear he
    go_enter Tryz.func139, Tryz.ntmps139
    go_wp2_with fail
    refine hA.mono ?_
    rintro e w1 ⟨rfl, rfl⟩
    go_wp2_with fail
    exact bodyPost_ret (v := .tuple #[.int .i64 0, .int .i64 0, .int .i64 4]) (by simp [results, Tryz.results139, go_sem]) rfl ⟨rfl, Fr.refl _ _⟩
  · rw [e1] at hA ⊢
    obtain ⟨b, cap, hov, hbl, d0, d1⟩ := V.obj hx
    obtain ⟨r1, r2⟩ := rfM_get (os := M.objs) (i := (x : Int)) (by simpa using hx)
    simp only [Int.toNat_natCast] at r1 r2
    obtain ⟨k1, k2⟩ := V.fl x hx
    obtain ⟨ra, rc, hra, _⟩ := k1.sl
    obtain ⟨ia, ic, hia, _⟩ := k2.sl
    rw [hov] at c0
    simp only [ne_eq, not_true_eq_false, if_false, r1, r2]
    have hx' : (x : Int) < M.objs.length := by omega
    have hsz := mi.sz _ (List.getElem_mem hx)
    have hol := mi.len
    rw [hra] at d0
    rw [hia] at d1
    go_enter Tryz.func139, Tryz.ntmps139
    go_wp2_with fail
    refine hA.mono ?_
    rintro e w1 ⟨rfl, rfl⟩
    go_wp2_with fail
    refine wp_region_text (by kernel_rfl) (by kernel_rfl) ?_
    go_wp2_with fail
    refine ⟨by kernel_rfl, ?_⟩
    go_wp2_with fail
    exact bodyPost_ret (v := .tuple #[.int .i64 (M.objs[x].1.length : Nat), .int .i64 (M.objs[x].2.length : Nat), .int .i64 0]) (by simp [results, Tryz.results139, go_sem]) rfl ⟨rfl, (Fr.refl _ _).drew⟩
set_option maxRecDepth 100000 in
set_option maxHeartbeats 4000000 in
theorem ldIntMF (H : MM w m M O) (mi : MInv M) (h24 : M.rt.length ≤ 24) (i j : Int) : Calls Tryz.prog 137 #[.pointer (some ⟨m, 0, none⟩), .int .i64 i, .int .i64 j] w fun e w' => e = .returned (.tuple #[.int .i64 (ldIntM M i j).1, .int .i64 (ldIntM M i j).2]) ∧ w' = w := by
  have hA := atMF H h24 i
  obtain ⟨ov, rv, f, V⟩ := H
  obtain ⟨c0, c1, hlt, hz⟩ := V.cells
  unfold ldIntM
  rcases atM_obj mi i with ⟨he, e1 | e1⟩ | ⟨x, e1, hx⟩
  · rw [e1] at hA ⊢
    simp only
    clear he
    go_enter Tryz.func137, Tryz.ntmps137
    go_wp2_with fail
    refine hA.mono ?_
    rintro e w1 ⟨rfl, rfl⟩
    go_wp2_with fail
    exact bodyPost_ret (v := .tuple #[.int .i64 0, .int .i64 2]) (by simp [results, Tryz.results137, go_sem]) rfl ⟨rfl, rfl⟩
  · rw [e1] at hA ⊢
    simp only
    clear he
    go_enter Tryz.func137, Tryz.ntmps137
    go_wp2_with fail
    refine hA.mono ?_
    rintro e w1 ⟨rfl, rfl⟩
    go_wp2_with fail
    exact bodyPost_ret (v := .tuple #[.int .i64 0, .int .i64 4]) (by simp [results, Tryz.results137, go_sem]) rfl ⟨rfl, rfl⟩
  · rw [e1] at hA ⊢
    obtain ⟨b, cap, hov, hbl, d0, d1⟩ := V.obj hx
    obtain ⟨r1, r2⟩ := rfM_get (os := M.objs) (i := (x : Int)) (by simpa using hx)
    simp only [Int.toNat_natCast] at r1 r2
    obtain ⟨k1, k2⟩ := V.fl x hx
    obtain ⟨ra, rc, hra, _⟩ := k1.sl
    obtain ⟨ia, ic, hia, _⟩ := k2.sl
    rw [hov] at c0
    simp only [ne_eq, not_true_eq_false, if_false, r2]
    have hx' : (x : Int) < M.objs.length := by omega
    have hsz := mi.sz _ (List.getElem_mem hx)
    have hol := mi.len
    by_cases hf : j < 0 ∨ (M.objs[x].2.length : Int) ≤ j
    · rw [if_pos hf]
      rw [hia] at d1
      rcases hf with hf | hf
      all_goals
        go_enter Tryz.func137, Tryz.ntmps137
        go_wp2_with fail
        refine hA.mono ?_
        rintro e w1 ⟨rfl, rfl⟩
        go_wp2_with fail
        exact bodyPost_ret (v := .tuple #[.int .i64 0, .int .i64 5]) (by simp [results, Tryz.results137, go_sem]) rfl ⟨rfl, rfl⟩
    · rw [if_neg hf]
      obtain ⟨q, rfl⟩ := Int.eq_ofNat_of_zero_le (show 0 ≤ j by omega)
      have hq : q < M.objs[x].2.length := by omega
      have hq' : (q : Int) < M.objs[x].2.length := by omega
      obtain ⟨ib, ic2, hib, hibl, cq, _⟩ := k2.get hq
      rw [hib] at d1
      simp only [Int.toNat_natCast, List.getElem?_eq_getElem hq, Option.getD_some]
      generalize M.objs[x].2[q] = xx at *
      clear hf
      go_enter Tryz.func137, Tryz.ntmps137
      go_wp2_with fail
      refine hA.mono ?_
      rintro e w1 ⟨rfl, rfl⟩
      go_wp2_with fail
      exact bodyPost_ret (v := .tuple #[.int .i64 xx, .int .i64 0]) (by simp [results, Tryz.results137, go_sem]) rfl ⟨rfl, rfl⟩
set_option maxRecDepth 100000 in
set_option maxHeartbeats 4000000 in
theorem stIntMF (H : MM w m M O) (mi : MInv M) (h24 : M.rt.length ≤ 24) (i j v : Int) : Calls Tryz.prog 82 #[.pointer (some ⟨m, 0, none⟩), .int .i64 i, .int .i64 j, .int .i64 v] w fun e w' => e = .returned (.int .i64 (stIntM M i j v).1) ∧ MM w' m (stIntM M i j v).2 (Gw O w w') ∧ Fr O w w' := by
  have hG : MM w m M (Gw O w w) := H.grow (Nat.le_refl _)
  have hA := atMF H h24 i
  obtain ⟨ov, rv, f, V⟩ := H
  obtain ⟨c0, c1, hlt, hz⟩ := V.cells
  unfold stIntM
  rcases atM_obj mi i with ⟨he, e1 | e1⟩ | ⟨x, e1, hx⟩
  · rw [e1] at hA ⊢
    simp only
    clear he
    go_enter Tryz.func82, Tryz.ntmps82
    go_wp2_with fail
    refine hA.mono ?_
    rintro e w1 ⟨rfl, rfl⟩
    go_wp2_with fail
    go_ret
    exact ⟨rfl, hG, Fr.refl _ _⟩
  · rw [e1] at hA ⊢
    simp only
    clear he
    go_enter Tryz.func82, Tryz.ntmps82
    go_wp2_with fail
    refine hA.mono ?_
    rintro e w1 ⟨rfl, rfl⟩
    go_wp2_with fail
    go_ret
    exact ⟨rfl, hG, Fr.refl _ _⟩
  · rw [e1] at hA ⊢
    obtain ⟨b, cap, hov, hbl, d0, d1⟩ := V.obj hx
    obtain ⟨r1, r2⟩ := rfM_get (os := M.objs) (i := (x : Int)) (by simpa using hx)
    simp only [Int.toNat_natCast] at r1 r2
    obtain ⟨k1, k2⟩ := V.fl x hx
    obtain ⟨ra, rc, hra, _⟩ := k1.sl
    obtain ⟨ia, ic, hia, _⟩ := k2.sl
    rw [hov] at c0
    simp only [ne_eq, not_true_eq_false, if_false, r1, r2, Int.toNat_natCast]
    have hx' : (x : Int) < M.objs.length := by omega
    have hsz := mi.sz _ (List.getElem_mem hx)
    have hol := mi.len
    by_cases hf : j < 0 ∨ (M.objs[x].2.length : Int) ≤ j
    · rw [if_pos hf]
      rw [hia] at d1
      rcases hf with hf | hf
      all_goals
        go_enter Tryz.func82, Tryz.ntmps82
        go_wp2_with fail
        refine hA.mono ?_
        rintro e w1 ⟨rfl, rfl⟩
        go_wp2_with fail
        go_ret
        exact ⟨rfl, hG, Fr.refl _ _⟩
    · rw [if_neg hf]
      obtain ⟨q, rfl⟩ := Int.eq_ofNat_of_zero_le (show 0 ≤ j by omega)
      have hq : q < M.objs[x].2.length := by omega
      have hq' : (q : Int) < M.objs[x].2.length := by omega
      obtain ⟨ib, ic2, hib, _, hibl, hiO, him, cq, cz, VS⟩ := V.setInt hx hq
      rw [hib] at d1
      simp only [Int.toNat_natCast]
      have Hk : Hid (_ ∧ _) := ⟨VS v, (Fr.refl O w).setC ib q (.int .i64 v) (fun _ => hiO)⟩
      obtain ⟨y, cy⟩ : ∃ y, w.cell? ⟨ib, q, none⟩ = some (.int .i64 y) := ⟨_, cq⟩
      clear cq hf VS
      go_enter Tryz.func82, Tryz.ntmps82
      go_wp2_with fail
      refine hA.mono ?_
      rintro e w1 ⟨rfl, rfl⟩
      go_wp2_with fail
      go_ret
      exact ⟨rfl, MM.grow ⟨_, _, _, Hk.out.1⟩ Hk.out.2.size, Hk.out.2⟩
set_option maxRecDepth 100000 in
set_option maxHeartbeats 4000000 in
theorem ldRefMF (H : MM w m M O) (mi : MInv M) (h24 : M.rt.length ≤ 24) (i j l : Int) : Calls Tryz.prog 136 #[.pointer (some ⟨m, 0, none⟩), .int .i64 i, .int .i64 j, .int .i64 l] w fun e w' => e = .returned (.int .i64 (ldRefM M i j l).1) ∧ MM w' m (ldRefM M i j l).2 (Gw O w w') ∧ Fr O w w' := by
  have hG : MM w m M (Gw O w w) := H.grow (Nat.le_refl _)
  have hA := atMF H h24 i
  obtain ⟨ov, rv, f, V⟩ := H
  obtain ⟨c0, c1, hlt, hz⟩ := V.cells
  unfold ldRefM
  rcases atM_obj mi i with ⟨he, e1 | e1⟩ | ⟨x, e1, hx⟩
  · rw [e1] at hA ⊢
    simp only
    clear he
    go_enter Tryz.func136, Tryz.ntmps136
    go_wp2_with fail
    refine hA.mono ?_
    rintro e w1 ⟨rfl, rfl⟩
    go_wp2_with fail
    go_ret
    exact ⟨rfl, hG, Fr.refl _ _⟩
  · rw [e1] at hA ⊢
    simp only
    clear he
    go_enter Tryz.func136, Tryz.ntmps136
    go_wp2_with fail
    refine hA.mono ?_
    rintro e w1 ⟨rfl, rfl⟩
    go_wp2_with fail
    go_ret
    exact ⟨rfl, hG, Fr.refl _ _⟩
  · rw [e1] at hA ⊢
    obtain ⟨b, cap, hov, hbl, d0, d1⟩ := V.obj hx
    obtain ⟨r1, r2⟩ := rfM_get (os := M.objs) (i := (x : Int)) (by simpa using hx)
    simp only [Int.toNat_natCast] at r1 r2
    obtain ⟨k1, k2⟩ := V.fl x hx
    obtain ⟨ra, rc, hra, _⟩ := k1.sl
    obtain ⟨ia, ic, hia, _⟩ := k2.sl
    rw [hov] at c0
    simp only [ne_eq, not_true_eq_false, if_false, r1]
    have hx' : (x : Int) < M.objs.length := by omega
    have hsz := mi.sz _ (List.getElem_mem hx)
    have hol := mi.len
    by_cases hf : j < 0 ∨ (M.objs[x].1.length : Int) ≤ j
    · rw [if_pos hf]
      rw [hra] at d0
      rcases hf with hf | hf
      all_goals
        go_enter Tryz.func136, Tryz.ntmps136
        go_wp2_with fail
        refine hA.mono ?_
        rintro e w1 ⟨rfl, rfl⟩
        go_wp2_with fail
        go_ret
        exact ⟨rfl, hG, Fr.refl _ _⟩
    · rw [if_neg hf]
      obtain ⟨q, rfl⟩ := Int.eq_ofNat_of_zero_le (show 0 ≤ j by omega)
      have hq : q < M.objs[x].1.length := by omega
      have hq' : (q : Int) < M.objs[x].1.length := by omega
      by_cases hjj : l < 0 ∨ (M.rt.length : Int) ≤ l
      · rw [if_pos hjj]
        rw [hra] at d0
        obtain ⟨ta, tc, hta, _⟩ := V.rt.sl
        rw [hta] at c1
        clear hf
        rcases hjj with hjj | hjj
        all_goals
          go_enter Tryz.func136, Tryz.ntmps136
          go_wp2_with fail
          refine hA.mono ?_
          rintro e w1 ⟨rfl, rfl⟩
          go_wp2_with fail
          go_ret
          exact ⟨rfl, hG, Fr.refl _ _⟩
      · rw [if_neg hjj]
        obtain ⟨z, rfl⟩ := Int.eq_ofNat_of_zero_le (show 0 ≤ l by omega)
        have hz1 : z < M.rt.length := by omega
        have hz' : (z : Int) < M.rt.length := by omega
        obtain ⟨rb, rc2, hrb, hrbl, cq, _⟩ := k1.get hq
        rw [hrb] at d0
        obtain ⟨tb, tc, htb, _, htbl, htO, htm, ct, ctz, VS⟩ := V.setRt hz1
        rw [htb] at c1
        simp only [Int.toNat_natCast, List.getElem?_eq_getElem hq, Option.getD_some]
        have Hk : Hid (_ ∧ _) := ⟨VS M.objs[x].1[q], (Fr.refl O w).setC tb z (.int .i64 M.objs[x].1[q]) (fun _ => htO)⟩
        obtain ⟨y, cy⟩ : ∃ y, w.cell? ⟨tb, z, none⟩ = some (.int .i64 y) := ⟨_, ct⟩
        generalize M.objs[x].1[q] = xx at *
        clear ct hf hjj VS
        go_enter Tryz.func136, Tryz.ntmps136
        go_wp2_with fail
        refine hA.mono ?_
        rintro e w1 ⟨rfl, rfl⟩
        go_wp2_with fail
        refine wp_region_text (by kernel_rfl) (by kernel_rfl) ?_
        go_wp2_with fail
        refine ⟨by kernel_rfl, ?_⟩
        go_wp2_with fail
        go_ret
        exact ⟨rfl, (MM.same ⟨_, _, _, Hk.out.1⟩ (Fr.refl (fun _ => False) _).drew).grow Hk.out.2.drew.size, Hk.out.2.drew⟩
set_option maxRecDepth 100000 in
set_option maxHeartbeats 4000000 in
theorem stRefMF (H : MM w m M O) (mi : MInv M) (h24 : M.rt.length ≤ 24) (i j l : Int) : Calls Tryz.prog 81 #[.pointer (some ⟨m, 0, none⟩), .int .i64 i, .int .i64 j, .int .i64 l] w fun e w' => e = .returned (.int .i64 (stRefM M i j l).1) ∧ MM w' m (stRefM M i j l).2 (Gw O w w') ∧ Fr O w w' := by
  have hG : MM w m M (Gw O w w) := H.grow (Nat.le_refl _)
  have hA := atMF H h24 i
  obtain ⟨ov, rv, f, V⟩ := H
  obtain ⟨c0, c1, hlt, hz⟩ := V.cells
  unfold stRefM
  rcases atM_obj mi i with ⟨he, e1 | e1⟩ | ⟨x, e1, hx⟩
  · rw [e1] at hA ⊢
    simp only
    clear he
    go_enter Tryz.func81, Tryz.ntmps81
    go_wp2_with fail
    refine hA.mono ?_
    rintro e w1 ⟨rfl, rfl⟩
    go_wp2_with fail
    go_ret
    exact ⟨rfl, hG, Fr.refl _ _⟩
  · rw [e1] at hA ⊢
    simp only
    clear he
    go_enter Tryz.func81, Tryz.ntmps81
    go_wp2_with fail
    refine hA.mono ?_
    rintro e w1 ⟨rfl, rfl⟩
    go_wp2_with fail
    go_ret
    exact ⟨rfl, hG, Fr.refl _ _⟩
  · rw [e1] at hA ⊢
    obtain ⟨b, cap, hov, hbl, d0, d1⟩ := V.obj hx
    obtain ⟨r1, r2⟩ := rfM_get (os := M.objs) (i := (x : Int)) (by simpa using hx)
    simp only [Int.toNat_natCast] at r1 r2
    obtain ⟨k1, k2⟩ := V.fl x hx
    obtain ⟨ra, rc, hra, _⟩ := k1.sl
    obtain ⟨ia, ic, hia, _⟩ := k2.sl
    rw [hov] at c0
    simp only [ne_eq, not_true_eq_false, if_false, r1, r2, Int.toNat_natCast]
    have hx' : (x : Int) < M.objs.length := by omega
    have hsz := mi.sz _ (List.getElem_mem hx)
    have hol := mi.len
    by_cases hf : j < 0 ∨ (M.objs[x].1.length : Int) ≤ j
    · rw [if_pos hf]
      rw [hra] at d0
      rcases hf with hf | hf
      all_goals
        go_enter Tryz.func81, Tryz.ntmps81
        go_wp2_with fail
        refine hA.mono ?_
        rintro e w1 ⟨rfl, rfl⟩
        go_wp2_with fail
        go_ret
        exact ⟨rfl, hG, Fr.refl _ _⟩
    · rw [if_neg hf]
      obtain ⟨q, rfl⟩ := Int.eq_ofNat_of_zero_le (show 0 ≤ j by omega)
      have hq : q < M.objs[x].1.length := by omega
      have hq' : (q : Int) < M.objs[x].1.length := by omega
      by_cases hjj : l < 0 ∨ (M.rt.length : Int) ≤ l
      · rw [if_pos hjj]
        rw [hra] at d0
        obtain ⟨ta, tc, hta, _⟩ := V.rt.sl
        rw [hta] at c1
        clear hf
        rcases hjj with hjj | hjj
        all_goals
          go_enter Tryz.func81, Tryz.ntmps81
          go_wp2_with fail
          refine hA.mono ?_
          rintro e w1 ⟨rfl, rfl⟩
          go_wp2_with fail
          go_ret
          exact ⟨rfl, hG, Fr.refl _ _⟩
      · rw [if_neg hjj]
        obtain ⟨z, rfl⟩ := Int.eq_ofNat_of_zero_le (show 0 ≤ l by omega)
        have hz1 : z < M.rt.length := by omega
        have hz' : (z : Int) < M.rt.length := by omega
        obtain ⟨rb, rc2, hrb, _, hrbl, hrO, hrm, cq, crz, VS⟩ := V.setRef hx hq
        rw [hrb] at d0
        obtain ⟨tb, tc, htb, htbl, ct, _⟩ := V.rt.get hz1
        rw [htb] at c1
        simp only [Int.toNat_natCast, List.getElem?_eq_getElem hz1, Option.getD_some]
        have Hk : Hid (_ ∧ _) := ⟨VS M.rt[z], (Fr.refl O w).setC rb q (.int .i64 M.rt[z]) (fun _ => hrO)⟩
        obtain ⟨y, cy⟩ : ∃ y, w.cell? ⟨rb, q, none⟩ = some (.int .i64 y) := ⟨_, cq⟩
        generalize M.rt[z] = xx at *
        clear cq hf hjj VS
        go_enter Tryz.func81, Tryz.ntmps81
        go_wp2_with fail
        refine hA.mono ?_
        rintro e w1 ⟨rfl, rfl⟩
        go_wp2_with fail
        refine wp_region_text (by kernel_rfl) (by kernel_rfl) ?_
        go_wp2_with fail
        refine ⟨by kernel_rfl, ?_⟩
        go_wp2_with fail
        go_ret
        exact ⟨rfl, (MM.same ⟨_, _, _, Hk.out.1⟩ (Fr.refl (fun _ => False) _).drew).grow Hk.out.2.drew.size, Hk.out.2.drew⟩
end
end Go.Proofs.Qxb6500277aGreat
