/- The law: the quiet walk. -/
import Derived.Test.Qxb6500285aGreatLA10b
namespace Go.Proofs.Qxb6500285aGreat
open Go Go.RowKit

set_option maxRecDepth 100000 in
set_option maxHeartbeats 16000000 in
theorem walk_quiet {w : World} {a : Option Addr} {n cap : Nat} (hs : ScrAt w a n) :
    Calls Tryz.prog 7 #[.slice a n cap, .bool true] w fun e w' => (∃ k, e = .returned (.tuple #[.int .i64 (-1), .int .i64 k])) ∧ Fr (fun _ => False) w w' := by
  go_enter Tryz.func7, Tryz.ntmps7
  go_wp2_with fail
  refine (ground_any _).mono ?_
  rintro e w1 ⟨x, sm, pk, df, rfl, hG⟩
  have hbx := bxB w1 sm pk df
  have kx := (Fr.refl (fun _ => False) w1).alloc (.cells #[.pointer (some ⟨sm, 0, none⟩), .pointer (some ⟨pk, 0, none⟩), .pointer (some ⟨df, 0, none⟩)] 31)
  go_wp2_with fail
  refine (newE_any sm pk df _).mono ?_
  rintro e w2 ⟨rfl, hE2, f2⟩
  simp only [World.size_alloc] at hE2 ⊢
  have k2 := kx.trans f2 (fun _ _ h => h)
  have hb2 := hbx.frame f2 (fun h => h)
  have hl2 := hE2.lt
  go_wp2_with fail
  refine (newME _).mono ?_
  rintro e w3 ⟨m, mc, sp, rfl, hM, f3⟩
  have hb3 := hb2.frame f3 (fun h => h)
  have k3 := k2.trans f3 (fun _ _ h => h)
  have ho := hG.ord
  have apm := hM.ap
  obtain ⟨A, hAe⟩ : ∃ A : Ad, A = ⟨w.heap.size, w1.heap.size + 1, sm, x, pk, df, m, w2.heap.size, mc, sp, w3.heap.size, w1.heap.size⟩ := ⟨_, rfl⟩
  have L0 : Law (w3.alloc deskO) A (fun _ => False) desk0 [] 0 0 0 := by
    subst hAe
    exact law0 (w1 := w) (A := ⟨w.heap.size, w1.heap.size + 1, sm, x, pk, df, m, w2.heap.size, mc, sp, w3.heap.size, w1.heap.size⟩) (hG.frame k3) (hE2.frame f3 (fun h => h)) hM hb3 (by simp only; omega) (by simp only; omega) (by simp only; omega) (by simp only; omega) rfl
  have A1 : w1.heap.size + 1 = A.e := by rw [hAe]
  have A2 : m = A.m := by rw [hAe]
  have A3 : w3.heap.size = A.d := by rw [hAe]
  have A4 : w1.heap.size = A.bb := by rw [hAe]
  have A5 : A.lo = w.heap.size := by rw [hAe]
  have F0 : Fr (fun _ => False) w (w3.alloc deskO) := (hG.fr.trans k3 (fun _ _ h => h)).alloc _
  clear hAe hG hbx kx hE2 k2 hb2 hl2 hb3 k3 f2 f3 ho apm hM
  rw [A1, A4, A2]
  unfold deskO at L0 F0
  obtain ⟨b0, b1, b2, bl⟩ := L0.bcells
  clear A1 A4
  go_wp2_with fail
  clear A3
  refine (right_any _ _ _ _ 0 0).mono ?_
  rintro e w5 ⟨rfl, f5⟩
  have L5 := L0.same f5
  have F5 := F0.trans f5 (fun _ _ h => h)
  clear b0 b1 b2 bl
  obtain ⟨b0, b1, b2, bl⟩ := L5.bcells
  go_wp2_with fail
  refine (memo_any _ _ _ _ _ 0 0).mono ?_
  rintro e w6 ⟨rfl, f6⟩
  have L6 := L5.same f6
  have F6 := F5.trans f6 (fun _ _ h => h)
  clear b0 b1 b2 bl L0 L5 F0 F5 f5
  go_wp2_with fail
  have L7 := L6
  have F7 := F6
  clear L6 F6 f6
  go_loopg [10] n (fun g kv wr => ∃ k : Nat, kv = .int .i64 k ∧ k + g = n ∧ k ≤ 4398046511104 ∧ (∃ D ns, Law wr A (fun _ => False) D ns (300 * k) (2 * k) k) ∧ Fr (fun _ => False) w wr)
  case atStart => exact ⟨0, rfl, by omega, by omega, ⟨_, _, L7⟩, F7⟩
  case round =>
    obtain ⟨k, rfl, hkg, hk42, ⟨D, ns, L⟩, hfr⟩ := hrel
    have hkg' : k + gk = n := hkg
    clear hkg L7 F7
    have Hk42 : Hid _ := hk42
    clear hk42
    have hkb : (k : Int) < 140737488355328 := by have := Hk42.out; omega
    by_cases hlt : k < n
    · by_cases hlt2 : (k : Int) < 4398046511104
      · rcases hs with h0 | ⟨b, off, rfl, hb, hcells⟩
        · exact absurd hlt (by omega)
        obtain ⟨kind, a', b', c', S, T, c0, c1, c2, c3, c4, c5⟩ := hcells k hlt
        rw [← hfr.cell (p := ⟨b, off + k * 6, none⟩) hb (by simp)] at c0
        rw [← hfr.cell (p := ⟨b, off + k * 6 + 1, none⟩) hb (by simp)] at c1
        rw [← hfr.cell (p := ⟨b, off + k * 6 + 2, none⟩) hb (by simp)] at c2
        rw [← hfr.cell (p := ⟨b, off + k * 6 + 3, none⟩) hb (by simp)] at c3
        rw [← hfr.cell (p := ⟨b, off + k * 6 + 4, none⟩) hb (by simp)] at c4
        rw [← hfr.cell (p := ⟨b, off + k * 6 + 5, none⟩) hb (by simp)] at c5
        clear hcells
        obtain ⟨b0, b1, b2, bl⟩ := L.bcells
        have kO := (Fr.refl (fun _ => False) wr).alloc (.cells #[.int .i64 kind, .int .i64 a', .int .i64 b', .int .i64 c', .string S, .string T] 52)
        have hO := opB wr kind a' b' c' S T
        have PL : ∀ c, PW A D c → c < wr.heap.size := fun c hc => (L.pslo hc).2
        go_wp2_with fail
        refine (mark_any _ _ _ _).mono ?_
        rintro e w8 ⟨rfl, f8⟩
        have k8 := kO.trans f8 (fun _ _ h => h)
        have L8 := L.same k8
        have F8 := hfr.trans k8 (fun _ _ h => h)
        have hO8 := hO.frame f8 (fun h => h)
        have o0 := hO8.cell (o := 0) (by omega)
        have o1 := hO8.cell (o := 1) (by omega)
        have o2 := hO8.cell (o := 2) (by omega)
        have o3 := hO8.cell (o := 3) (by omega)
        have o4 := hO8.cell (o := 4) (by omega)
        have o5 := hO8.cell (o := 5) (by omega)
        simp only [opCell] at o0 o1 o2 o3 o4 o5
        clear c0 c1 c2 c3 c4 c5 b0 b1 b2 bl hO kO f8
        go_wp2_with fail
        refine (play_any L8 (by have := Hk42.out; omega) (by have := Hk42.out; omega) (by have := Hk42.out; omega) kind a' b' c' S T).mono ?_
        rintro e w9 ⟨⟨er, rfl⟩, ⟨D', ns', L9⟩, f9⟩
        have hO9 := hO8.frame f9 (fun hc => by have := PL _ hc; omega)
        have F9 := F8.trans f9 (fun c hc h => by have := (L.pslo h).1; omega)
        clear o0 o1 o2 o3 o4 o5 L8 F8 hO8 L PL k8 hfr f9
        obtain ⟨b0, b1, b2, bl⟩ := L9.bcells
        have o0 := hO9.cell (o := 0) (by omega)
        simp only [opCell] at o0
        go_wp2_with fail
        refine (right_any _ _ _ _ kind er).mono ?_
        rintro e w10 ⟨rfl, f10⟩
        have L10 := L9.same f10
        have F10 := F9.trans f10 (fun _ _ h => h)
        have hO10 := hO9.frame f10 (fun h => h)
        clear b0 b1 b2 bl
        obtain ⟨b0, b1, b2, bl⟩ := L10.bcells
        clear o0
        have o0 := hO10.cell (o := 0) (by omega)
        simp only [opCell] at o0
        go_wp2_with fail
        refine (memo_any _ _ _ _ _ kind er).mono ?_
        rintro e w11 ⟨rfl, f11⟩
        have L11 := L10.same f11
        have F11 := F10.trans f11 (fun _ _ h => h)
        have hO11 := hO10.frame f11 (fun h => h)
        clear b0 b1 b2 bl
        obtain ⟨b0, b1, b2, bl⟩ := L11.bcells
        clear o0
        have o0 := hO11.cell (o := 0) (by omega)
        simp only [opCell] at o0
        go_wp2_with fail
        refine (handed_any _ _ _ _ _ kind er).mono ?_
        rintro e w12 ⟨rfl, f12⟩
        have L12 := L11.same f12
        have F12 := F11.trans f12 (fun _ _ h => h)
        have hO12 := hO11.frame f12 (fun h => h)
        clear b0 b1 b2 bl
        clear o0
        have o0 := hO12.cell (o := 0) (by omega)
        simp only [opCell] at o0
        go_wp2_with fail
        refine (remember_any L12.dk L12.kn kind er).mono ?_
        rintro e w13 hR
        obtain ⟨rfl, f13, D2, L13⟩ := L12.rem hR
        have F13 := F12.trans f13 (fun c hc e => by have := L12.dlo; omega)
        clear o0 hR
        have L16 := L13
        have F16 := F13
        go_wp2_with fail
        go_roundg (gk - 1)
        case measure => omega
        case rel => exact ⟨k + 1, by simp, by omega, by omega, ⟨_, _, L16.le (by omega) (by omega) (by omega)⟩, F16⟩
      · have hk3 : (4398046511104 : Int) ≤ k := Int.not_lt.1 hlt2
        have hn3 : (4398046511104 : Int) ≤ n := Int.le_trans hk3 (by omega)
        have Hlt : Hid _ := hlt
        have Hkg : Hid _ := hkg'
        have hlt' : (k : Int) < n := by omega
        have q1 : decide ((k : Int) < 4398046511104) = false := decide_eq_false (Int.not_lt.2 hk3)
        have q2 : decide ((n : Int) < 4398046511104) = false := decide_eq_false (Int.not_lt.2 hn3)
        clear hlt2 hlt hkg' hk3 hn3
        go_wp2_with fail
        all_goals exact bodyPost_ret (v := .tuple #[.int .i64 (-1), .int .i64 4398046511104]) (by simp [results, Tryz.results7, go_sem]) rfl ⟨⟨_, rfl⟩, hfr⟩
    · have hkn : k = n := by omega
      by_cases hn2 : (n : Int) < 4398046511104
      · go_wp2_with fail
        exact bodyPost_ret (v := .tuple #[.int .i64 (-1), .int .i64 n]) (by simp [results, Tryz.results7, go_sem]) rfl ⟨⟨_, rfl⟩, hfr⟩
      · go_wp2_with fail
        exact bodyPost_ret (v := .tuple #[.int .i64 (-1), .int .i64 4398046511104]) (by simp [results, Tryz.results7, go_sem]) rfl ⟨⟨_, rfl⟩, hfr⟩
end Go.Proofs.Qxb6500285aGreat
