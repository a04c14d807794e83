/- The real parser's Check. -/
import Derived.Test.Qxb6500287aB11
import Derived.Test.Qxb6500287aPast
namespace Go.Proofs.Qxb6500287a
open Go Go.RowKit

set_option maxRecDepth 100000 in
set_option maxHeartbeats 8000000 in
theorem checkR_any {w : World} {x : Nat} (hA : RAny w x ⟨#[]⟩) : Calls Try.prog 12 #[.pointer (some ⟨x, 0, none⟩)] w fun e w' => e = .returned (.bool true) ∧ Fr (fun _ => False) w w' := by
  obtain ⟨f, iv, ns, g, t, r, e, q, hb, hL, hwf, hlen, hg, hd⟩ := hA
  have c0 := hb.cell (o := 0) (by omega)
  rw [hL.p0] at c0
  have cn := hb.cell (o := 290) (by omega)
  rw [hL.n] at cn
  have cd := hb.cell (o := 321) (by omega)
  rw [hL.dp] at cd
  have cg := hb.cell (o := 322) (by omega)
  rw [hL.gr] at cg
  have hxl := hb.lt
  have b1 : (ns.length : Int) ≤ 24 := by omega
  have b2 : (r.length : Int) ≤ 5 := by omega
  have b3 : (g : Int) ≤ 3 := by omega
  go_enter Try.func12, Try.ntmps12
  go_wp2_with fail
  go_loopg [3] ns.length (fun gk kv wr => ∃ k : Nat, kv = .int .i64 k ∧ k + gk = ns.length ∧ Fr (fun _ => False) w wr)
  case atStart => exact ⟨0, rfl, by omega, Fr.refl _ _⟩
  case round =>
    obtain ⟨k, rfl, hkg, Fk⟩ := hrel
    have hkg' : k + gk = ns.length := hkg
    clear hkg c0 cn cd cg
    have hbk := hb.frame Fk (fun h => h)
    have cn := hbk.cell (o := 290) (by omega)
    rw [hL.n] at cn
    have lxk := hbk.lt
    by_cases hk : k < ns.length
    · have hkI : (k : Int) < ns.length := by omega
      have hk24 : k < 24 := by omega
      have hok := hwf k hk
      have hok24 := hok.mono (show k ≤ ns.length by omega)
      have hnq := nul_eq hwf k hk
      have cl := hbk.cell (o := 266 + k) (by omega)
      rw [hL.nl k hk, hnq] at cl
      have n0 := hbk.cell (o := 2 + k * 11 + 0) (by omega)
      rw [hL.nd k hk 0 (by omega)] at n0
      have n1 := hbk.cell (o := 2 + k * 11 + 1) (by omega)
      rw [hL.nd k hk 1 (by omega)] at n1
      have n2 := hbk.cell (o := 2 + k * 11 + 2) (by omega)
      rw [hL.nd k hk 2 (by omega)] at n2
      have n3 := hbk.cell (o := 2 + k * 11 + 3) (by omega)
      rw [hL.nd k hk 3 (by omega)] at n3
      have n4 := hbk.cell (o := 2 + k * 11 + 4) (by omega)
      rw [hL.nd k hk 4 (by omega)] at n4
      have n5 := hbk.cell (o := 2 + k * 11 + 5) (by omega)
      rw [hL.nd k hk 5 (by omega)] at n5
      have n6 := hbk.cell (o := 2 + k * 11 + 6) (by omega)
      rw [hL.nd k hk 6 (by omega)] at n6
      have n7 := hbk.cell (o := 2 + k * 11 + 7) (by omega)
      rw [hL.nd k hk 7 (by omega)] at n7
      have n8 := hbk.cell (o := 2 + k * 11 + 8) (by omega)
      rw [hL.nd k hk 8 (by omega)] at n8
      have n9 := hbk.cell (o := 2 + k * 11 + 9) (by omega)
      rw [hL.nd k hk 9 (by omega)] at n9
      have n10 := hbk.cell (o := 2 + k * 11 + 10) (by omega)
      rw [hL.nd k hk 10 (by omega)] at n10
      simp only [ndCell, Nat.add_zero] at n0 n1 n2 n3 n4 n5 n6 n7 n8 n9 n10
      generalize ns[k] = nd at *
      clear hnq
      have pl : ∀ y : Past wr, y.now.cell? ⟨x, 266 + k, none⟩ = some (.bool (nullNd (nulL ns) nd)) := Past.cell cl lxk
      have p0 := fun y : Past wr => Past.cell n0 lxk y
      have p1 := fun y : Past wr => Past.cell n1 lxk y
      have p2 := fun y : Past wr => Past.cell n2 lxk y
      have p3 := fun y : Past wr => Past.cell n3 lxk y
      have p4 := fun y : Past wr => Past.cell n4 lxk y
      have p5 := fun y : Past wr => Past.cell n5 lxk y
      have p6 := fun y : Past wr => Past.cell n6 lxk y
      have p7 := fun y : Past wr => Past.cell n7 lxk y
      have p8 := fun y : Past wr => Past.cell n8 lxk y
      have p9 := fun y : Past wr => Past.cell n9 lxk y
      have p10 := fun y : Past wr => Past.cell n10 lxk y
      have hcall : ∀ y : Past wr, Calls Try.prog 16 #[.pointer (some ⟨x, 0, none⟩), ndV nd] y.now fun e w'' => e = .returned (.bool (nullNd (nulL ns) nd)) ∧ ∃ z : Past wr, w'' = z.now := fun y => Calls.past_of (nullOf_any nd ns (hbk.frame y.fr (fun h => h)) hL.nl hlen hok24)
      unfold ndV at hcall
      generalize nullNd (nulL ns) nd = bb at *
      obtain ⟨kind, a, b, mn, mx, cap, lz, st⟩ := nd
      simp only at n0 n1 n2 n3 n4 n5 n6 n7 n8 n9 n10 hcall p0 p1 p2 p3 p4 p5 p6 p7 p8 p9 p10
      haveI := Past.some wr
      rcases hok with ⟨hkd, ha, hb'⟩ | ⟨hkd, h1, h2, h3, h4⟩ | ⟨hkd, h1, h2, hb'⟩
      · simp only at hkd ha hb'
        subst ha hb'
        rcases hkd with rfl | rfl | rfl | rfl
        all_goals cases bb
        all_goals
          go_wp2_with fail
          refine wp_region_past (by kernel_rfl) (by kernel_rfl) ?_
          repeat (go_big_quiet_step (exact hcall _))
          refine wpQuiet_nil ?_
          rintro _ ⟨y, rfl⟩
          go_wp2_with fail
          go_roundg (gk - 1)
          case measure => omega
          case rel => exact ⟨k + 1, by simp, by omega, Fk.trans y.fr (fun _ _ h => h)⟩
      · simp only at hkd h1 h2 h3 h4
        obtain ⟨A, rfl⟩ : ∃ A : Nat, a = A := ⟨a.toNat, by omega⟩
        obtain ⟨B, rfl⟩ : ∃ B : Nat, b = B := ⟨b.toNat, by omega⟩
        rcases hkd with rfl | rfl
        all_goals cases bb
        all_goals
          go_wp2_with fail
          refine wp_region_past (by kernel_rfl) (by kernel_rfl) ?_
          repeat (go_big_quiet_step (exact hcall _))
          refine wpQuiet_nil ?_
          rintro _ ⟨y, rfl⟩
          go_wp2_with fail
          go_roundg (gk - 1)
          case measure => omega
          case rel => exact ⟨k + 1, by simp, by omega, Fk.trans y.fr (fun _ _ h => h)⟩
      · simp only at hkd h1 h2 hb'
        subst hb'
        obtain ⟨A, rfl⟩ : ∃ A : Nat, a = A := ⟨a.toNat, by omega⟩
        rcases hkd with rfl | rfl
        all_goals cases bb
        all_goals
          go_wp2_with fail
          refine wp_region_past (by kernel_rfl) (by kernel_rfl) ?_
          repeat (go_big_quiet_step (exact hcall _))
          refine wpQuiet_nil ?_
          rintro _ ⟨y, rfl⟩
          go_wp2_with fail
          go_roundg (gk - 1)
          case measure => omega
          case rel => exact ⟨k + 1, by simp, by omega, Fk.trans y.fr (fun _ _ h => h)⟩
    · have hkI : decide ((k : Int) < ns.length) = false := decide_eq_false (by omega)
      go_wp2_with fail
      go_ret
      exact ⟨rfl, Fk⟩
end Go.Proofs.Qxb6500287a
