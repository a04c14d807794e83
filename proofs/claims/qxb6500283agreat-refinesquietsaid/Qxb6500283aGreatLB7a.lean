/- The law: the walk. -/
import Derived.Test.Qxb6500283aGreatLB7
namespace Go.Proofs.Qxb6500283aGreat
open Go Go.RowKit

set_option maxRecDepth 100000 in
set_option maxHeartbeats 16000000 in
theorem walk_loud {w : World} {a : Option Addr} {n cap : Nat} (hs : ScrAt w a n) :
    Calls Tryz.prog 8 #[.slice a n cap, .bool false] w fun e w' => (∃ k, e = .returned (.tuple #[.int .i64 (-1), .int .i64 k])) ∧ Fr (fun _ => False) w w' := by
  go_enter Tryz.func8, Tryz.ntmps8
  go_wp2_with fail
  refine (ground_any _).mono ?_
  rintro v w1 ⟨x, sm, pk, df, e, rfl, hG⟩
  have hbx := bx1 w1 (some ⟨e, 0, none⟩)
  have kx := (Fr.refl (fun _ => False) w1).alloc (.cells #[.pointer (some ⟨e, 0, none⟩)] 31)
  go_wp2_with fail
  refine (newF_any e _).mono ?_
  rintro v w2 ⟨rfl, hP2, hS2, f2⟩
  simp only [World.size_alloc] at hP2 hS2 ⊢
  have k2 := kx.trans f2 (fun _ _ h => h)
  have hb2 := hbx.frame f2 (fun h => h)
  have hl2 := hP2.lt2
  go_wp2_with fail
  refine (newMF _).mono ?_
  rintro v w3 ⟨B, rfl, hM, hMo, f3⟩
  have hb3 := hb2.frame f3 (fun h => h)
  have k3 := k2.trans f3 (fun _ _ h => h)
  have ho := hG.ord
  have hL0 := law0 (bb := w1.heap.size) (hG.frame k3) (hP2.frame f3 (fun h => h) (fun h => h)) (hS2.frame f3 (fun h => h)) hM (by omega) (fun c hc => by have := hMo c hc; omega)
  obtain ⟨A, hAe⟩ : ∃ A : Fa, A = ⟨e, sm, x, pk, df, w1.heap.size + 1, w1.heap.size + 1 + 1, w1.heap.size + 1 + 2⟩ := ⟨_, rfl⟩
  rw [← hAe] at hL0
  obtain ⟨L0, st⟩ := hL0
  have A1 : w1.heap.size + 1 = A.fb := by rw [hAe]
  have F0 : Fr (fun _ => False) w (w3.alloc deskO) := (hG.fr.trans k3 (fun _ _ h => h)).alloc _
  have B0 : Blk (w3.alloc deskO) w1.heap.size 1 _ := hb3.frame ((Fr.refl (fun _ => False) w3).alloc deskO) (fun h => h)
  clear hAe hG hbx kx hP2 hS2 k2 hb2 hb3 k3 f2 f3 ho hM hMo hl2
  rw [A1]
  obtain ⟨bb, A4⟩ : ∃ bb, w1.heap.size = bb := ⟨_, rfl⟩
  rw [A4] at B0 st ⊢
  obtain ⟨d, A3⟩ : ∃ d, w3.heap.size = d := ⟨_, rfl⟩
  rw [A3] at L0 st
  unfold deskO at L0 F0 B0
  clear A1 A4
  go_wp2_with fail
  clear A3
  obtain ⟨fc0, fp0, hF0⟩ := L0.fnd
  refine (checkF hF0.pm hF0.sm hF0.asc hF0.ok).mono ?_
  rintro v w5 ⟨rfl, f5⟩
  have L5 := L0.same f5
  have F5 := F0.trans f5 (fun _ _ h => h)
  have B5 := B0.frame f5 (fun h => h)
  clear hF0
  clear L0 F0 B0 f5
  go_wp2_with fail
  go_loopg [10] n (fun g kv wr => ∃ k : Nat, kv = .int .i64 k ∧ k + g = n ∧ k ≤ 4398046511104 ∧ (∃ D, Law wr A B d (fun _ => False) D (100000 * k) (1000 * k)) ∧ Blk wr bb 1 (fun _ => .pointer (some ⟨e, 0, none⟩)) ∧ Fr (fun _ => False) w wr)
  case atStart => exact ⟨0, rfl, by omega, by omega, ⟨_, L5⟩, B5, F5⟩
  case round =>
    obtain ⟨k, rfl, hkg, hk42, ⟨D, L⟩, hB, hfr⟩ := hrel
    have hkg' : k + gk = n := hkg
    clear hkg L5 F5 B5
    have Hk42 : Hid _ := hk42
    clear hk42
    have hkb : (k : Int) < 140737488355328 := by have := Hk42.out; omega
    by_cases hlt : k < n
    · by_cases hlt2 : (k : Int) < 4398046511104
      · rcases hs with h0 | ⟨b, off, rfl, hb, hcells⟩
        · exact absurd hlt (by omega)
        have b0 := hB.cell (o := 0) (by omega)
        have bl := hB.lt
        go_wp2_with fail
        refine (markF_any _ _).mono ?_
        rintro v w8 ⟨rfl, f8⟩
        have L8 := L.same f8
        have F8 := hfr.trans f8 (fun _ _ h => h)
        have B8 := hB.frame f8 (fun h => h)
        clear b0 bl L f8 hB hfr
        obtain ⟨kind, a', b', c', S, T, c0, c1, c2, c3, c4, c5, hS, hT⟩ := hcells k hlt
        rw [← F8.cell (p := ⟨b, off + k * 6, none⟩) hb (by simp)] at c0
        rw [← F8.cell (p := ⟨b, off + k * 6 + 1, none⟩) hb (by simp)] at c1
        rw [← F8.cell (p := ⟨b, off + k * 6 + 2, none⟩) hb (by simp)] at c2
        rw [← F8.cell (p := ⟨b, off + k * 6 + 3, none⟩) hb (by simp)] at c3
        rw [← F8.cell (p := ⟨b, off + k * 6 + 4, none⟩) hb (by simp)] at c4
        rw [← F8.cell (p := ⟨b, off + k * 6 + 5, none⟩) hb (by simp)] at c5
        clear hcells
        have b0 := B8.cell (o := 0) (by omega)
        have bl := B8.lt
        go_wp2_with fail
        refine wp_region_text (by kernel_rfl) (by kernel_rfl) ?_
        go_wp2_with fail
        have L8d := L8.same (Fr.refl (fun _ => False) w8).drew
        refine (play_any L8d (by have := Hk42.out; omega) (by have := Hk42.out; omega) (some ⟨e, 0, none⟩) kind a' b' c' S T hS).mono ?_
        rintro v w9 ⟨rfl, ⟨D', L9⟩, f9⟩
        have F9 := F8.drew.trans f9 (fun c hc h => by have := (st.pw L8d h).1; omega)
        have B9 := B8.drew.frame f9 (fun hc => (st.pw L8d hc).2 rfl)
        have L9d := L9
        clear c0 c1 c2 c3 c4 c5 b0 bl L8 L8d F8 B8 f9 L9
        go_wp2_with fail
        refine ⟨by kernel_rfl, ?_⟩
        obtain ⟨fc9, fp9, hF9⟩ := L9d.fnd
        go_wp2_with fail
        refine (checkF hF9.pm hF9.sm hF9.asc hF9.ok).mono ?_
        rintro v w10 ⟨rfl, f10⟩
        have L10 := L9d.same f10
        have F10 := F9.trans f10 (fun _ _ h => h)
        have B10 := B9.frame f10 (fun h => h)
        clear hF9
        clear L9d F9 B9 f10
        go_wp2_with fail
        go_roundg (gk - 1)
        case measure => omega
        case rel => exact ⟨k + 1, by simp, by omega, by omega, ⟨_, L10.le (by omega) (by omega)⟩, B10, F10⟩
      · have hk3 : (4398046511104 : Int) ≤ k := Int.not_lt.1 hlt2
        have hn3 : (4398046511104 : Int) ≤ n := Int.le_trans hk3 (by omega)
        have Hlt : Hid _ := hlt
        have Hkg : Hid _ := hkg'
        have hlt' : (k : Int) < n := by omega
        have q1 : decide ((k : Int) < 4398046511104) = false := decide_eq_false (Int.not_lt.2 hk3)
        have q2 : decide ((n : Int) < 4398046511104) = false := decide_eq_false (Int.not_lt.2 hn3)
        clear hlt2 hlt hkg' hk3 hn3
        go_wp2_with fail
        all_goals exact bodyPost_ret (v := .tuple #[.int .i64 (-1), .int .i64 4398046511104]) (by simp [results, Tryz.results8, go_sem]) rfl ⟨⟨_, rfl⟩, hfr⟩
    · have hkn : k = n := by omega
      by_cases hn2 : (n : Int) < 4398046511104
      · go_wp2_with fail
        exact bodyPost_ret (v := .tuple #[.int .i64 (-1), .int .i64 n]) (by simp [results, Tryz.results8, go_sem]) rfl ⟨⟨_, rfl⟩, hfr⟩
      · go_wp2_with fail
        exact bodyPost_ret (v := .tuple #[.int .i64 (-1), .int .i64 4398046511104]) (by simp [results, Tryz.results8, go_sem]) rfl ⟨⟨_, rfl⟩, hfr⟩
end Go.Proofs.Qxb6500283aGreat
