/- measure. -/
import Derived.Test.Qxb6500283aGreatW9c
namespace Go.Proofs.Qxb6500283aGreat
open Go Go.RowKit

/-- A set is empty? -/
theorem run_equalZero (d : Nat) (a b c e : Int) (w : World) : (Op.equalIn (d + 1 + 1) 95 (.agg #[.int .u64 a, .int .u64 b, .int .u64 c, .int .u64 e]) (.agg #[.int .u64 0, .int .u64 0, .int .u64 0, .int .u64 0])).run Tryz.prog w = .ok (decide (a = 0) && decide (b = 0) && decide (c = 0) && decide (e = 0)) w := by
  have hs : (Tryz.prog.info? 93).map (·.size) = some 1 := by kernel_rfl
  have hsz : ∀ w, (sizeOf 93).run Tryz.prog w = .ok 1 w := fun w => by
    cases hi : Tryz.prog.info? 93 with
    | none => rw [hi] at hs; cases hs
    | some i =>
      have : i.size = 1 := by simpa [hi] using hs
      simp [sizeOf, typeInfo, hi, this]
  unfold Op.equalIn
  simp only [Sem.run_bind, run_underlying Tryz.underlying95, Result.andThen_ok, hsz]
  simp only [Std.Legacy.Range.forIn_eq_forIn_range']
  have hp : ∀ (cs : Array Value) (o : Nat) (v : Value) (w : World), cs[o]? = some v → (part 93 cs o).run Tryz.prog w = .ok v w := fun cs o v w h => part_ok Tryz.underlying93 h w
  have r4 : List.range' 0 4 1 = [0, 1, 2, 3] := rfl
  by_cases h0 : a = 0
  · by_cases h1 : b = 0
    · by_cases h2 : c = 0
      · by_cases h3 : e = 0
        · simp [Std.Legacy.Range.size, r4, hp, run_equalIn_int _ _ _ _ _ _ _ Tryz.underlying93, h0, h1, h2, h3]
        · simp [Std.Legacy.Range.size, r4, hp, run_equalIn_int _ _ _ _ _ _ _ Tryz.underlying93, h0, h1, h2, h3]
      · simp [Std.Legacy.Range.size, r4, hp, run_equalIn_int _ _ _ _ _ _ _ Tryz.underlying93, h0, h1, h2]
    · simp [Std.Legacy.Range.size, r4, hp, run_equalIn_int _ _ _ _ _ _ _ Tryz.underlying93, h0, h1]
  · simp [Std.Legacy.Range.size, r4, hp, run_equalIn_int _ _ _ _ _ _ _ Tryz.underlying93, h0]
theorem eqg68 : Tryz.prog.eqGuardType Tryz.prog.depth 95 = false := by kernel_rfl
theorem ZM.push {w : World} {s n : Nat} {ns : List Nd} {p q : Nat} (h : ZM w s ns n) (hn : n < 24) (hz : zz ns n = (p, q)) : ZM ((w.setCell ⟨s + 1, n, none⟩ (.int .i64 (p : Nat))).setCell ⟨s + 2, n, none⟩ (.int .i64 (q : Nat))) s ns (n + 1) := by
  obtain ⟨f1, f2, a, b, c⟩ := h
  refine ⟨_, _, (a.set n _).setOther _ _ (show s + 1 ≠ s + 2 by omega), (b.setOther _ _ (show s + 2 ≠ s + 1 by omega)).set n _, fun k hk => ?_⟩
  by_cases he : k = n
  · subst he
    rw [upd_same, upd_same, hz]
    exact ⟨rfl, rfl⟩
  · rw [upd_other _ _ _ _ he, upd_other _ _ _ _ he]
    exact c k (by omega)
set_option maxRecDepth 100000 in
set_option maxHeartbeats 16000000 in
theorem measure_any {w : World} {s x tb ncap : Nat} {ns out : List Nd} {ws : List Tk} {rs : List Nat} (h : SM w s x out ws rs) (hZ0 : ZM w s ns 0) (hNM : NM w tb ns) (htb : ¬ (tb = s + 1 ∨ tb = s + 2)) (h24 : ns.length ≤ 24) (hwf : WF ns) (hrb : ∀ k (h : k < ns.length), RB ns[k]) :
    Calls Tryz.prog 85 #[.pointer (some ⟨s, 0, none⟩), .slice (some ⟨tb, 0, none⟩) ns.length ncap] w fun v w' => v = .returned (.tuple #[]) ∧ ZM w' s ns ns.length ∧ Fr (fun b => b = s + 1 ∨ b = s + 2) w w' := by
  go_enter Tryz.func85, Tryz.ntmps85
  go_wp2_with fail
  go_loopg [4] ns.length (fun gk nv wr => ∃ n : Nat, nv = .int .i64 (n : Nat) ∧ n + gk = ns.length ∧ ZM wr s ns n ∧ Fr (fun b => b = s + 1 ∨ b = s + 2) w wr)
  case atStart => exact ⟨0, rfl, by omega, hZ0, Fr.refl _ _⟩
  case round =>
    obtain ⟨n, rfl, hng, hZ, hfr⟩ := hrel
    have hng' : n + gk = ns.length := hng
    clear hng
    have hnI : (n : Int) ≤ 24 := by omega
    by_cases hn : n < ns.length
    · have hnd' : decide ((n : Int) < ns.length) = true := decide_eq_true (by omega)
      have hnI2 : (n : Int) ≤ 23 := by omega
      have hSM := h.frame hfr (by unfold SBld; intro b hb; omega)
      have hN := (hNM.frame hfr htb).at
      obtain ⟨_, c1, c2, _, hl⟩ := hSM.cells
      have hl0 : s < wr.heap.size := by omega
      have hl1 : s + 1 < wr.heap.size := by omega
      have hl2 : s + 2 < wr.heap.size := by omega
      have htl : tb < wr.heap.size := by
        obtain ⟨f, a, _⟩ := hNM.frame hfr htb
        exact a.lt
      have hZ' := hZ
      obtain ⟨f1, f2, hb1, hb2, _⟩ := hZ'
      have y1 := hb1.cell (o := n) (by omega)
      have y2 := hb2.cell (o := n) (by omega)
      have z1 := hb1.frozen
      have z2 := hb2.frozen
      have hok := hwf n hn
      have hr := hrb n hn
      have hz := zz_eq hwf n hn
      have hcore := core_main hwf hrb
      have n0 := hN n hn 0 (by omega)
      have n1 := hN n hn 1 (by omega)
      have n2 := hN n hn 2 (by omega)
      have n3 := hN n hn 3 (by omega)
      have n4 := hN n hn 4 (by omega)
      have n5 := hN n hn 5 (by omega)
      have n6 := hN n hn 6 (by omega)
      have n7 := hN n hn 7 (by omega)
      have n8 := hN n hn 8 (by omega)
      have n9 := hN n hn 9 (by omega)
      have n10 := hN n hn 10 (by omega)
      obtain ⟨⟨kind, a, b, mn, mx, cp, lz, st⟩, hnd⟩ : ∃ nd, ns[n] = nd := ⟨_, rfl⟩
      rw [hnd] at hok hr hz n0 n1 n2 n3 n4 n5 n6 n7 n8 n9 n10
      simp only [ndCell, Nat.add_zero] at n0 n1 n2 n3 n4 n5 n6 n7 n8 n9 n10
      unfold okNd at hok
      unfold RB at hr
      unfold zNd at hz
      simp only at hok hr
      clear hb1 hb2 hN hnd
      rcases hok with ⟨hk, rfl, rfl⟩ | ⟨hk, h1, h2, h3, h4⟩ | ⟨hk, h1, h2, rfl⟩
      · rcases hk with rfl | rfl | rfl | rfl
        · have Hz : Hid (zz ns n = (0, 1)) := by show zz ns n = (0, 1); rw [hz]; simp
          clear hz hcore hr
          go_wp2_with fail
          have hZn := ((hZ.push (by omega) Hz.out).frame ((Fr.refl (fun _ => False) _).alloc (.cells #[.int .i64 0, .int .i64 (-1), .int .i64 (-1), .int .i64 mn, .int .i64 mx, .int .i64 cp, .bool lz, .int .u64 (wd st 0 : Nat), .int .u64 (wd st 1 : Nat), .int .u64 (wd st 2 : Nat), .int .u64 (wd st 3 : Nat)] 97)) (fun h => h) (fun h => h))
          have hFn := ((((hfr.setC (s + 1) n (.int .i64 ((0 : Nat) : Int)) (fun _ => .inl rfl)).setC (s + 2) n (.int .i64 ((1 : Nat) : Int)) (fun _ => .inr rfl)).alloc (.cells #[.int .i64 0, .int .i64 (-1), .int .i64 (-1), .int .i64 mn, .int .i64 mx, .int .i64 cp, .bool lz, .int .u64 (wd st 0 : Nat), .int .u64 (wd st 1 : Nat), .int .u64 (wd st 2 : Nat), .int .u64 (wd st 3 : Nat)] 97)))
          go_roundg (gk - 1)
          case measure => omega
          case rel => exact ⟨n + 1, by simp, by omega, hZn, hFn⟩
        · have e2 := fun w => run_equalZero 9998 (wd st 0 : Nat) (wd st 1 : Nat) (wd st 2 : Nat) (wd st 3 : Nat) w
          cases hse : setE st with
          | true =>
            have Hz : Hid (zz ns n = (1, 1)) := by show zz ns n = (1, 1); rw [hz]; simp [hse]
            have hall : (decide (((wd st 0 : Nat) : Int) = 0) && decide (((wd st 1 : Nat) : Int) = 0) && decide (((wd st 2 : Nat) : Int) = 0) && decide (((wd st 3 : Nat) : Int) = 0)) = true := by
              unfold setE at hse
              simp only [Bool.and_eq_true, decide_eq_true_eq] at hse ⊢
              omega
            have e3 : ∀ w, (Op.equalIn 10000 95 (.agg #[.int .u64 (wd st 0 : Nat), .int .u64 (wd st 1 : Nat), .int .u64 (wd st 2 : Nat), .int .u64 (wd st 3 : Nat)]) (.agg #[.int .u64 0, .int .u64 0, .int .u64 0, .int .u64 0])).run Tryz.prog w = .ok true w := fun w => by rw [← hall]; exact e2 w
            have eg := eqg68
            clear hz hcore hr e2 hall hse
            go_wp2_with fail
            have hZn := ((hZ.push (by omega) Hz.out).frame ((Fr.refl (fun _ => False) _).alloc (.cells #[.int .i64 1, .int .i64 (-1), .int .i64 (-1), .int .i64 mn, .int .i64 mx, .int .i64 cp, .bool lz, .int .u64 (wd st 0 : Nat), .int .u64 (wd st 1 : Nat), .int .u64 (wd st 2 : Nat), .int .u64 (wd st 3 : Nat)] 97)) (fun h => h) (fun h => h))
            have hFn := ((((hfr.setC (s + 1) n (.int .i64 ((1 : Nat) : Int)) (fun _ => .inl rfl)).setC (s + 2) n (.int .i64 ((1 : Nat) : Int)) (fun _ => .inr rfl)).alloc (.cells #[.int .i64 1, .int .i64 (-1), .int .i64 (-1), .int .i64 mn, .int .i64 mx, .int .i64 cp, .bool lz, .int .u64 (wd st 0 : Nat), .int .u64 (wd st 1 : Nat), .int .u64 (wd st 2 : Nat), .int .u64 (wd st 3 : Nat)] 97)))
            go_roundg (gk - 1)
            case measure => omega
            case rel => exact ⟨n + 1, by simp, by omega, hZn, hFn⟩
          | false =>
            have Hz : Hid (zz ns n = (2, 1)) := by show zz ns n = (2, 1); rw [hz]; simp [hse]
            have hall : (decide (((wd st 0 : Nat) : Int) = 0) && decide (((wd st 1 : Nat) : Int) = 0) && decide (((wd st 2 : Nat) : Int) = 0) && decide (((wd st 3 : Nat) : Int) = 0)) = false := by
              unfold setE at hse
              rw [← Bool.not_eq_true] at hse ⊢
              simp only [Bool.and_eq_true, decide_eq_true_eq] at hse ⊢
              omega
            have e3 : ∀ w, (Op.equalIn 10000 95 (.agg #[.int .u64 (wd st 0 : Nat), .int .u64 (wd st 1 : Nat), .int .u64 (wd st 2 : Nat), .int .u64 (wd st 3 : Nat)]) (.agg #[.int .u64 0, .int .u64 0, .int .u64 0, .int .u64 0])).run Tryz.prog w = .ok false w := fun w => by rw [← hall]; exact e2 w
            have eg := eqg68
            clear hz hcore hr e2 hall hse
            go_wp2_with fail
            have hZn := ((hZ.push (by omega) Hz.out).frame ((Fr.refl (fun _ => False) _).alloc (.cells #[.int .i64 1, .int .i64 (-1), .int .i64 (-1), .int .i64 mn, .int .i64 mx, .int .i64 cp, .bool lz, .int .u64 (wd st 0 : Nat), .int .u64 (wd st 1 : Nat), .int .u64 (wd st 2 : Nat), .int .u64 (wd st 3 : Nat)] 97)) (fun h => h) (fun h => h))
            have hFn := ((((hfr.setC (s + 1) n (.int .i64 ((2 : Nat) : Int)) (fun _ => .inl rfl)).setC (s + 2) n (.int .i64 ((1 : Nat) : Int)) (fun _ => .inr rfl)).alloc (.cells #[.int .i64 1, .int .i64 (-1), .int .i64 (-1), .int .i64 mn, .int .i64 mx, .int .i64 cp, .bool lz, .int .u64 (wd st 0 : Nat), .int .u64 (wd st 1 : Nat), .int .u64 (wd st 2 : Nat), .int .u64 (wd st 3 : Nat)] 97)))
            go_roundg (gk - 1)
            case measure => omega
            case rel => exact ⟨n + 1, by simp, by omega, hZn, hFn⟩
        · have Hz : Hid (zz ns n = (2, 1)) := by show zz ns n = (2, 1); rw [hz]; simp
          clear hz hcore hr
          go_wp2_with fail
          have hZn := ((hZ.push (by omega) Hz.out).frame ((Fr.refl (fun _ => False) _).alloc (.cells #[.int .i64 2, .int .i64 (-1), .int .i64 (-1), .int .i64 mn, .int .i64 mx, .int .i64 cp, .bool lz, .int .u64 (wd st 0 : Nat), .int .u64 (wd st 1 : Nat), .int .u64 (wd st 2 : Nat), .int .u64 (wd st 3 : Nat)] 97)) (fun h => h) (fun h => h))
          have hFn := ((((hfr.setC (s + 1) n (.int .i64 ((2 : Nat) : Int)) (fun _ => .inl rfl)).setC (s + 2) n (.int .i64 ((1 : Nat) : Int)) (fun _ => .inr rfl)).alloc (.cells #[.int .i64 2, .int .i64 (-1), .int .i64 (-1), .int .i64 mn, .int .i64 mx, .int .i64 cp, .bool lz, .int .u64 (wd st 0 : Nat), .int .u64 (wd st 1 : Nat), .int .u64 (wd st 2 : Nat), .int .u64 (wd st 3 : Nat)] 97)))
          go_roundg (gk - 1)
          case measure => omega
          case rel => exact ⟨n + 1, by simp, by omega, hZn, hFn⟩
        · have Hz : Hid (zz ns n = (2, 1)) := by show zz ns n = (2, 1); rw [hz]; simp
          clear hz hcore hr
          go_wp2_with fail
          have hZn := ((hZ.push (by omega) Hz.out).frame ((Fr.refl (fun _ => False) _).alloc (.cells #[.int .i64 3, .int .i64 (-1), .int .i64 (-1), .int .i64 mn, .int .i64 mx, .int .i64 cp, .bool lz, .int .u64 (wd st 0 : Nat), .int .u64 (wd st 1 : Nat), .int .u64 (wd st 2 : Nat), .int .u64 (wd st 3 : Nat)] 97)) (fun h => h) (fun h => h))
          have hFn := ((((hfr.setC (s + 1) n (.int .i64 ((2 : Nat) : Int)) (fun _ => .inl rfl)).setC (s + 2) n (.int .i64 ((1 : Nat) : Int)) (fun _ => .inr rfl)).alloc (.cells #[.int .i64 3, .int .i64 (-1), .int .i64 (-1), .int .i64 mn, .int .i64 mx, .int .i64 cp, .bool lz, .int .u64 (wd st 0 : Nat), .int .u64 (wd st 1 : Nat), .int .u64 (wd st 2 : Nat), .int .u64 (wd st 3 : Nat)] 97)))
          go_roundg (gk - 1)
          case measure => omega
          case rel => exact ⟨n + 1, by simp, by omega, hZn, hFn⟩
      · obtain ⟨na, rfl⟩ : ∃ na : Nat, a = na := ⟨a.toNat, by omega⟩
        obtain ⟨nb, rfl⟩ : ∃ nb : Nat, b = nb := ⟨b.toNat, by omega⟩
        have oa := (hcore na (by omega)).ok
        have ob := (hcore nb (by omega)).ok
        rcases hk with rfl | rfl
        · have hzz : zz ns n = catZ (zz ns na) (zz ns nb) := by rw [hz]; simp; rfl
          have hokz : OkZ (catZ (zz ns na) (zz ns nb)) := catZ_ok oa ob
          have FA := (Fr.refl (fun _ => False) wr).alloc (.cells #[.int .i64 4, .int .i64 (na : Nat), .int .i64 (nb : Nat), .int .i64 mn, .int .i64 mx, .int .i64 cp, .bool lz, .int .u64 (wd st 0 : Nat), .int .u64 (wd st 1 : Nat), .int .u64 (wd st 2 : Nat), .int .u64 (wd st 3 : Nat)] 97)
          have hcall := catS_any (hSM.idle FA) (hZ.frame FA (fun h => h) (fun h => h)) (by omega) (show na < n by omega) (show nb < n by omega) oa ob
          clear hz hcore hr oa ob
          unfold pairV at hcall
          generalize catZ (zz ns na) (zz ns nb) = Z at *
          obtain ⟨P, Q⟩ := Z
          have Hz : Hid _ := hzz
          have o1 := hokz.sh
          have o2 := hokz.one
          have o3 := hokz.hi
          clear hzz hokz
          simp only at hcall o1 o2 o3
          go_wp2_with fail
          refine hcall.mono ?_
          rintro v w9 ⟨rfl, f9⟩
          have FW := (hfr.trans FA (fun _ _ h => h.elim)).trans f9 (fun _ _ h => h.elim)
          have hZ9 := (hZ.frame FA (fun h => h) (fun h => h)).frame f9 (fun h => h) (fun h => h)
          have hSM9 := (hSM.idle FA).idle f9
          clear y1 y2 z1 z2 c1 c2 hl hl0 hl1 hl2 htl n0 n1 n2 n3 n4 n5 n6 n7 n8 n9 n10 hcall
          obtain ⟨_, c1, c2, _, hl⟩ := hSM9.cells
          have hZ9' := hZ9
          obtain ⟨f1', f2', hb1, hb2, _⟩ := hZ9'
          have y1 := hb1.cell (o := n) (by omega)
          have y2 := hb2.cell (o := n) (by omega)
          have z1 := hb1.frozen
          have z2 := hb2.frozen
          have hl0 : s < w9.heap.size := by omega
          have hl1 : s + 1 < w9.heap.size := by omega
          have hl2 : s + 2 < w9.heap.size := by omega
          by_cases hP : P = 2
          · subst hP
            clear o2
            go_wp2_with fail
            go_roundg (gk - 1)
            case measure => omega
            case rel => exact ⟨n + 1, by simp, by omega, hZ9.push (by omega) Hz.out, (FW.setC (s + 1) n _ (fun _ => .inl rfl)).setC (s + 2) n _ (fun _ => .inr rfl)⟩
          · have hQ := o2 hP
            subst hQ
            have tp : (((P : Nat) : Int) != 2) = true := by simp; omega
            have tp' : (((P : Nat) : Int) == 2) = false := by simp; omega
            clear o2
            go_wp2_with fail
            go_roundg (gk - 1)
            case measure => omega
            case rel => exact ⟨n + 1, by simp, by omega, hZ9.push (by omega) Hz.out, (FW.setC (s + 1) n _ (fun _ => .inl rfl)).setC (s + 2) n _ (fun _ => .inr rfl)⟩
        · have hzz : zz ns n = altZ (zz ns na) (zz ns nb) := by rw [hz]; simp; rfl
          have hokz : OkZ (altZ (zz ns na) (zz ns nb)) := altZ_ok oa ob
          have FA := (Fr.refl (fun _ => False) wr).alloc (.cells #[.int .i64 5, .int .i64 (na : Nat), .int .i64 (nb : Nat), .int .i64 mn, .int .i64 mx, .int .i64 cp, .bool lz, .int .u64 (wd st 0 : Nat), .int .u64 (wd st 1 : Nat), .int .u64 (wd st 2 : Nat), .int .u64 (wd st 3 : Nat)] 97)
          have hcall := altS_any (hSM.idle FA) (hZ.frame FA (fun h => h) (fun h => h)) (by omega) (show na < n by omega) (show nb < n by omega) oa ob
          clear hz hcore hr oa ob
          unfold pairV at hcall
          generalize altZ (zz ns na) (zz ns nb) = Z at *
          obtain ⟨P, Q⟩ := Z
          have Hz : Hid _ := hzz
          have o1 := hokz.sh
          have o2 := hokz.one
          have o3 := hokz.hi
          clear hzz hokz
          simp only at hcall o1 o2 o3
          go_wp2_with fail
          refine hcall.mono ?_
          rintro v w9 ⟨rfl, f9⟩
          have FW := (hfr.trans FA (fun _ _ h => h.elim)).trans f9 (fun _ _ h => h.elim)
          have hZ9 := (hZ.frame FA (fun h => h) (fun h => h)).frame f9 (fun h => h) (fun h => h)
          have hSM9 := (hSM.idle FA).idle f9
          clear y1 y2 z1 z2 c1 c2 hl hl0 hl1 hl2 htl n0 n1 n2 n3 n4 n5 n6 n7 n8 n9 n10 hcall
          obtain ⟨_, c1, c2, _, hl⟩ := hSM9.cells
          have hZ9' := hZ9
          obtain ⟨f1', f2', hb1, hb2, _⟩ := hZ9'
          have y1 := hb1.cell (o := n) (by omega)
          have y2 := hb2.cell (o := n) (by omega)
          have z1 := hb1.frozen
          have z2 := hb2.frozen
          have hl0 : s < w9.heap.size := by omega
          have hl1 : s + 1 < w9.heap.size := by omega
          have hl2 : s + 2 < w9.heap.size := by omega
          by_cases hP : P = 2
          · subst hP
            clear o2
            go_wp2_with fail
            go_roundg (gk - 1)
            case measure => omega
            case rel => exact ⟨n + 1, by simp, by omega, hZ9.push (by omega) Hz.out, (FW.setC (s + 1) n _ (fun _ => .inl rfl)).setC (s + 2) n _ (fun _ => .inr rfl)⟩
          · have hQ := o2 hP
            subst hQ
            have tp : (((P : Nat) : Int) != 2) = true := by simp; omega
            have tp' : (((P : Nat) : Int) == 2) = false := by simp; omega
            clear o2
            go_wp2_with fail
            go_roundg (gk - 1)
            case measure => omega
            case rel => exact ⟨n + 1, by simp, by omega, hZ9.push (by omega) Hz.out, (FW.setC (s + 1) n _ (fun _ => .inl rfl)).setC (s + 2) n _ (fun _ => .inr rfl)⟩
      · obtain ⟨na, rfl⟩ : ∃ na : Nat, a = na := ⟨a.toNat, by omega⟩
        have oa := (hcore na (by omega)).ok
        rcases hk with rfl | rfl
        · obtain ⟨r1, r2, r3, r4, r5⟩ := hr rfl
          obtain ⟨m, rfl⟩ : ∃ m : Nat, mn = m := ⟨mn.toNat, by omega⟩
          have hzz : zz ns n = repZ (zz ns na) (m : Nat) mx := by rw [hz]; simp; rfl
          have hokz : OkZ (repZ (zz ns na) (m : Nat) mx) := repZ_ok oa (by omega) r5
          have FA := (Fr.refl (fun _ => False) wr).alloc (.cells #[.int .i64 6, .int .i64 (na : Nat), .int .i64 (-1), .int .i64 (m : Nat), .int .i64 mx, .int .i64 cp, .bool lz, .int .u64 (wd st 0 : Nat), .int .u64 (wd st 1 : Nat), .int .u64 (wd st 2 : Nat), .int .u64 (wd st 3 : Nat)] 97)
          have hcall := repS_any (hSM.idle FA) (hZ.frame FA (fun h => h) (fun h => h)) (by omega) (show na < n by omega) oa m mx (by omega) r3 r4 r5
          clear hz hcore hr oa
          unfold pairV at hcall
          generalize repZ (zz ns na) (m : Nat) mx = Z at *
          obtain ⟨P, Q⟩ := Z
          have Hz : Hid _ := hzz
          have o1 := hokz.sh
          have o2 := hokz.one
          have o3 := hokz.hi
          clear hzz hokz
          simp only at hcall o1 o2 o3
          go_wp2_with fail
          refine hcall.mono ?_
          rintro v w9 ⟨rfl, f9⟩
          have FW := (hfr.trans FA (fun _ _ h => h.elim)).trans f9 (fun _ _ h => h.elim)
          have hZ9 := (hZ.frame FA (fun h => h) (fun h => h)).frame f9 (fun h => h) (fun h => h)
          have hSM9 := (hSM.idle FA).idle f9
          clear y1 y2 z1 z2 c1 c2 hl hl0 hl1 hl2 htl n0 n1 n2 n3 n4 n5 n6 n7 n8 n9 n10 hcall
          obtain ⟨_, c1, c2, _, hl⟩ := hSM9.cells
          have hZ9' := hZ9
          obtain ⟨f1', f2', hb1, hb2, _⟩ := hZ9'
          have y1 := hb1.cell (o := n) (by omega)
          have y2 := hb2.cell (o := n) (by omega)
          have z1 := hb1.frozen
          have z2 := hb2.frozen
          have hl0 : s < w9.heap.size := by omega
          have hl1 : s + 1 < w9.heap.size := by omega
          have hl2 : s + 2 < w9.heap.size := by omega
          by_cases hP : P = 2
          · subst hP
            clear o2
            go_wp2_with fail
            go_roundg (gk - 1)
            case measure => omega
            case rel => exact ⟨n + 1, by simp, by omega, hZ9.push (by omega) Hz.out, (FW.setC (s + 1) n _ (fun _ => .inl rfl)).setC (s + 2) n _ (fun _ => .inr rfl)⟩
          · have hQ := o2 hP
            subst hQ
            have tp : (((P : Nat) : Int) != 2) = true := by simp; omega
            have tp' : (((P : Nat) : Int) == 2) = false := by simp; omega
            clear o2
            go_wp2_with fail
            go_roundg (gk - 1)
            case measure => omega
            case rel => exact ⟨n + 1, by simp, by omega, hZ9.push (by omega) Hz.out, (FW.setC (s + 1) n _ (fun _ => .inl rfl)).setC (s + 2) n _ (fun _ => .inr rfl)⟩
        · have hzz : zz ns n = grpZ (zz ns na) := by rw [hz]; simp; rfl
          have sa := hZ.shape (show na < n by omega) (by omega)
          have za := hZ.size (show na < n by omega) (by omega)
          have haI : (na : Int) ≤ 23 := by omega
          have o1 := oa.sh
          have o2 := oa.hi
          clear hz hcore hr oa
          generalize zz ns na = Z at *
          obtain ⟨P, Q⟩ := Z
          simp only at sa za o1 o2
          have hQ : (Q : Int) ≤ 32 := by omega
          by_cases hP : P = 1
          · subst hP
            have Hz : Hid (zz ns n = (1, 1)) := by show zz ns n = (1, 1); rw [hzz]; simp [grpZ]
            clear hzz
            go_wp2_with fail
            refine wp_region_text (by kernel_rfl) (by kernel_rfl) ?_
            go_wp2_with fail
            refine ⟨by kernel_rfl, ?_⟩
            go_wp2_with fail
            have hZn := ((hZ.push (by omega) Hz.out).frame ((Fr.refl (fun _ => False) _).alloc (.cells #[.int .i64 7, .int .i64 (na : Nat), .int .i64 (-1), .int .i64 mn, .int .i64 mx, .int .i64 cp, .bool lz, .int .u64 (wd st 0 : Nat), .int .u64 (wd st 1 : Nat), .int .u64 (wd st 2 : Nat), .int .u64 (wd st 3 : Nat)] 97)).drew (fun h => h) (fun h => h))
            have hFn := ((((hfr.setC (s + 1) n (.int .i64 ((1 : Nat) : Int)) (fun _ => .inl rfl)).setC (s + 2) n (.int .i64 ((1 : Nat) : Int)) (fun _ => .inr rfl)).alloc (.cells #[.int .i64 7, .int .i64 (na : Nat), .int .i64 (-1), .int .i64 mn, .int .i64 mx, .int .i64 cp, .bool lz, .int .u64 (wd st 0 : Nat), .int .u64 (wd st 1 : Nat), .int .u64 (wd st 2 : Nat), .int .u64 (wd st 3 : Nat)] 97)).drew)
            go_roundg (gk - 1)
            case measure => omega
            case rel => exact ⟨n + 1, by simp, by omega, hZn, hFn⟩
          · have Hz : Hid (zz ns n = (2, lidN (Q + 1))) := by show zz ns n = (2, lidN (Q + 1)); rw [hzz]; simp [grpZ, hP]
            have tp : (((P : Nat) : Int) != 1) = true := by simp; omega
            have tp' : (((P : Nat) : Int) == 1) = false := by simp; omega
            clear hzz
            go_wp2_with fail
            refine wp_region_text (by kernel_rfl) (by kernel_rfl) ?_
            go_wp2_with fail
            refine ⟨by kernel_rfl, ?_⟩
            go_wp2_with fail
            refine wp_region_text (by kernel_rfl) (by kernel_rfl) ?_
            go_wp2_with fail
            refine (lid_any (Q + 1) _).mono ?_
            rintro v w9 ⟨rfl, rfl⟩
            go_wp2_with fail
            refine ⟨by kernel_rfl, ?_⟩
            go_wp2_with fail
            have hZn := ((hZ.push (by omega) Hz.out).frame ((Fr.refl (fun _ => False) _).alloc (.cells #[.int .i64 7, .int .i64 (na : Nat), .int .i64 (-1), .int .i64 mn, .int .i64 mx, .int .i64 cp, .bool lz, .int .u64 (wd st 0 : Nat), .int .u64 (wd st 1 : Nat), .int .u64 (wd st 2 : Nat), .int .u64 (wd st 3 : Nat)] 97)).drew.drew (fun h => h) (fun h => h))
            have hFn := ((((hfr.setC (s + 1) n (.int .i64 ((2 : Nat) : Int)) (fun _ => .inl rfl)).setC (s + 2) n (.int .i64 ((lidN (Q + 1) : Nat) : Int)) (fun _ => .inr rfl)).alloc (.cells #[.int .i64 7, .int .i64 (na : Nat), .int .i64 (-1), .int .i64 mn, .int .i64 mx, .int .i64 cp, .bool lz, .int .u64 (wd st 0 : Nat), .int .u64 (wd st 1 : Nat), .int .u64 (wd st 2 : Nat), .int .u64 (wd st 3 : Nat)] 97)).drew.drew)
            go_roundg (gk - 1)
            case measure => omega
            case rel => exact ⟨n + 1, by simp, by omega, hZn, hFn⟩
    · have hnd' : decide ((n : Int) < ns.length) = false := decide_eq_false (by omega)
      obtain rfl : n = ns.length := by omega
      go_wp2_with fail
      go_end0
      exact ⟨rfl, hZ, hfr⟩
end Go.Proofs.Qxb6500283aGreat
