/- The real parser: Check, New. -/
import Derived.Test.Qxb6500280aPW19
namespace Go.Proofs.Qxb6500280a
open Go Go.RowKit

set_option maxRecDepth 100000 in
set_option maxHeartbeats 1000000 in
theorem aheadF {x y : Int} (h1 : -1 ≤ x) (h2 : x < y) (w : World) : Calls Try.prog 53 #[.int .i64 x, .int .i64 y] w fun e w' => e = .returned (.bool true) ∧ w' = w := by
  have a1 : decide (x ≥ -1) = true := decide_eq_true h1
  have a2 : decide (x < y) = true := decide_eq_true h2
  go_enter Try.func53, Try.ntmps53
  go_wp2_with fail
  go_ret
  exact ⟨rfl, rfl⟩
section
variable {w w' : World} {A : Pa} {T : List Tok} {i j : Nat} {ns ms : List Nd} {fl : Bool} {er q : Int} {S : Nat → Prop}
set_option maxRecDepth 100000 in
set_option maxHeartbeats 4000000 in
theorem soundF (P : PM w A T i ns fl er q) {k : Nat} (hk : k < ns.length) : Calls Try.prog 33 #[.pointer (some ⟨A.p, 0, none⟩), .int .i64 k] w fun e w' => e = .returned (.bool true) ∧ Fr (fun _ => False) w w' := by
  obtain ⟨r1, r2, r3, r4, r5⟩ := P.r15
  obtain ⟨b1, b2, b3⟩ := P.blt
  have hle := P.le
  have N := P.nok k hk
  obtain ⟨fa, hba, hpa⟩ := P.arr
  obtain ⟨m0, m1, m2, m3, m4, m5, m6, m7⟩ := hba.node hpa hk (by omega)
  have hk2 : k < 200 := by omega
  have hnl : (ns.length : Int) ≤ 200 := by omega
  generalize ns[k] = nd at *
  have f1 := (Fr.refl (fun _ => False) w).alloc (boxN nd)
  have Hf : Hid _ := f1
  have z0 : decide (nd.kind < 0) = false := decide_eq_false (by have := N.k; omega)
  have z1 : decide (nd.kind ≥ 20) = false := decide_eq_false (by have := N.k; omega)
  have z2 : decide (nd.pos < 0) = false := decide_eq_false (by have := N.p; omega)
  have HN : Hid _ := N
  clear N f1 hle hk
  go_enter Try.func33, Try.ntmps33
  go_wp2_with fail
  refine (aheadF HN.out.a.1 HN.out.a.2 _).mono ?_
  rintro v w2 ⟨rfl, e2⟩
  subst w2
  go_wp2_with fail
  refine (aheadF HN.out.b.1 HN.out.b.2 _).mono ?_
  rintro v w2 ⟨rfl, e2⟩
  subst w2
  go_wp2_with fail
  refine (aheadF HN.out.c.1 HN.out.c.2 _).mono ?_
  rintro v w2 ⟨rfl, e2⟩
  subst w2
  rcases HN.out.n with h | ⟨h1, h2⟩
  · have z4 : (nd.nx == -1) = true := by simp [h]
    clear h
    go_wp2_with fail
    go_quiet (fail)
    go_wp2_with fail
    go_ret
    exact ⟨rfl, Hf.out.drewN _⟩
  · have z4 : (nd.nx == -1) = false := by simp; omega
    have z5 : decide (nd.nx > (k : Int)) = true := decide_eq_true h1
    have z6 : decide (nd.nx < (ns.length : Int)) = true := decide_eq_true h2
    have z7 : decide ((k : Int) < nd.nx) = true := decide_eq_true h1
    clear h1 h2
    go_wp2_with fail
    go_quiet (fail)
    go_wp2_with fail
    go_ret
    exact ⟨rfl, Hf.out.drewN _⟩
end
set_option maxRecDepth 100000 in
set_option maxHeartbeats 4000000 in
theorem check_emp {w : World} {p lx ab : Nat} (hg : Blk w p 8 (pEmp lx ab)) : Calls Try.prog 18 #[.pointer (some ⟨p, 0, none⟩)] w fun e w' => e = .returned (.bool true) ∧ Fr (fun _ => False) w w' := by
  have a1 := hg.cell (o := 1) (by omega)
  have a2 := hg.cell (o := 2) (by omega)
  have a3 := hg.cell (o := 3) (by omega)
  have a4 := hg.cell (o := 4) (by omega)
  have a5 := hg.cell (o := 5) (by omega)
  have a6 := hg.cell (o := 6) (by omega)
  have a7 := hg.cell (o := 7) (by omega)
  have hp := hg.lt
  simp only [pEmp] at a1 a2 a3 a4 a5 a6 a7
  go_enter Try.func18, Try.ntmps18
  go_wp2_with fail
  go_quiet (fail)
  go_wp2_with fail
  go_quiet (fail)
  go_wp2_with fail
  refine wp_loop_rounds 1 ?_
  rw [rounds_succ]
  go_wp2_with fail
  go_ret
  exact ⟨rfl, (Fr.refl _ _).drewN _⟩
section
variable {w w' : World} {A : Pa} {T : List Tok} {i j : Nat} {ns ms : List Nd} {fl : Bool} {er q : Int} {S : Nat → Prop}
set_option maxRecDepth 100000 in
set_option maxHeartbeats 8000000 in
theorem check_pm (P : PM w A T i ns fl er q) (h1 : fl = false → er = 0 ∧ q = 0 ∧ i + 1 = T.length) (h2 : fl = true → er ≠ 0) : Calls Try.prog 18 #[.pointer (some ⟨A.p, 0, none⟩)] w fun e w' => e = .returned (.bool true) ∧ Fr (fun _ => False) w w' := by
  have HP : Hid (PM w A T i ns fl er q) := P
  obtain ⟨r0, r1, r2, r3, r4, r5, r6, r7⟩ := P.regs
  obtain ⟨b1, b2, b3⟩ := P.blt
  have hle : (ns.length : Int) ≤ 200 := by have := P.le; omega
  have hT := P.tok.le
  obtain ⟨m, hm⟩ : ∃ m, T.length = m + 1 := ⟨T.length - 1, by have := P.tok.pos; omega⟩
  have cl : w.cell? ⟨A.tb, m * 4, none⟩ = some (.int .i64 0) := by
    have h := P.tks.tok m (by omega) 0 (by omega)
    rw [show m * 4 + 0 = m * 4 by omega] at h
    rw [h]
    have := (P.tok.eof m (by omega)).2 hm.symm
    exact congrArg some (congrArg (Value.int .i64) this)
  have hi := P.lt
  rw [hm] at r1 hT hi h1
  have hm2 : m ≤ 8191 := by omega
  have hi2 : i ≤ m := by omega
  have hn2 : ns.length ≤ 200 := P.le
  have d1 : decide ((i : Int) < 0) = false := decide_eq_false (by omega)
  have d2 : decide (((m + 1 : Nat) : Int) ≤ (i : Int)) = false := decide_eq_false (by omega)
  have d3 : decide ((m : Int) + 1 ≤ (i : Int)) = false := decide_eq_false (by omega)
  have d4 : decide (m + 1 ≤ i) = false := decide_eq_false (by omega)
  have d5 : decide (m < i) = false := decide_eq_false (by omega)
  have d6 : decide ((ns.length : Int) < 0) = false := decide_eq_false (by omega)
  have d7 : decide ((200 : Int) < ns.length) = false := decide_eq_false (by omega)
  clear hm P hT hi
  cases fl with
  | false =>
    obtain ⟨rfl, rfl, hi3⟩ := h1 rfl
    obtain rfl : i = m := by omega
    clear h1 h2 hi3 hi2
    go_enter Try.func18, Try.ntmps18
    go_wp2_with fail
    go_quiet (fail)
    go_wp2_with fail
    go_quiet (fail)
    go_wp2_with fail
    go_quiet (fail)
    go_wp2_with fail
    clear r0 r1 r2 r3 r4 r5 r6 r7 b1 b2 b3 cl
    go_loopg [3] ns.length (fun gk kv wr => ∃ k : Nat, kv = .int .i64 k ∧ k + gk = ns.length ∧ Fr (fun _ => False) w wr)
    case atStart => exact ⟨0, rfl, by omega, (((Fr.refl _ _).drewN _).drewN _).drewN _⟩
    case round =>
      obtain ⟨k, rfl, hkg, FJ⟩ := hrel
      have Pj := HP.out.same FJ
      obtain ⟨r1, r2, r3, r4, r5⟩ := Pj.r15
      obtain ⟨b1, b2, b3⟩ := Pj.blt
      have Hkg : Hid _ := hkg
      by_cases hk : k < ns.length
      · have z1 : decide ((k : Int) < (ns.length : Int)) = true := decide_eq_true (by omega)
        have z2 : decide (k < ns.length) = true := decide_eq_true hk
        clear hkg
        have SF := soundF Pj hk
        clear hk
        have hk2 : k ≤ 200 := by have := Hkg.out; omega
        go_wp2_with fail
        refine SF.mono ?_
        rintro v w2 ⟨rfl, f2⟩
        go_wp2_with fail
        go_roundg (gk - 1)
        case measure => have := Hkg.out; have := of_decide_eq_true z2; omega
        case rel => exact ⟨k + 1, by simp, by have := Hkg.out; have := of_decide_eq_true z2; omega, FJ.trans f2 (fun _ _ h => h)⟩
      · have z1 : decide ((k : Int) < (ns.length : Int)) = false := decide_eq_false (by omega)
        have z2 : decide (k < ns.length) = false := decide_eq_false hk
        clear hkg hk
        go_wp2_with fail
        go_ret
        exact ⟨rfl, FJ⟩
  | true =>
    have hz : (er != 0) = true := by simpa using h2 rfl
    clear h1 h2
    go_enter Try.func18, Try.ntmps18
    go_wp2_with fail
    go_quiet (fail)
    go_wp2_with fail
    go_quiet (fail)
    go_wp2_with fail
    go_quiet (fail)
    go_wp2_with fail
    clear r0 r1 r2 r3 r4 r5 r6 r7 b1 b2 b3 cl
    go_loopg [3] ns.length (fun gk kv wr => ∃ k : Nat, kv = .int .i64 k ∧ k + gk = ns.length ∧ Fr (fun _ => False) w wr)
    case atStart => exact ⟨0, rfl, by omega, (((Fr.refl _ _).drewN _).drewN _).drewN _⟩
    case round =>
      obtain ⟨k, rfl, hkg, FJ⟩ := hrel
      have Pj := HP.out.same FJ
      obtain ⟨r1, r2, r3, r4, r5⟩ := Pj.r15
      obtain ⟨b1, b2, b3⟩ := Pj.blt
      have Hkg : Hid _ := hkg
      by_cases hk : k < ns.length
      · have z1 : decide ((k : Int) < (ns.length : Int)) = true := decide_eq_true (by omega)
        have z2 : decide (k < ns.length) = true := decide_eq_true hk
        clear hkg
        have SF := soundF Pj hk
        clear hk
        have hk2 : k ≤ 200 := by have := Hkg.out; omega
        go_wp2_with fail
        refine SF.mono ?_
        rintro v w2 ⟨rfl, f2⟩
        go_wp2_with fail
        go_roundg (gk - 1)
        case measure => have := Hkg.out; have := of_decide_eq_true z2; omega
        case rel => exact ⟨k + 1, by simp, by have := Hkg.out; have := of_decide_eq_true z2; omega, FJ.trans f2 (fun _ _ h => h)⟩
      · have z1 : decide ((k : Int) < (ns.length : Int)) = false := decide_eq_false (by omega)
        have z2 : decide (k < ns.length) = false := decide_eq_false hk
        clear hkg hk
        go_wp2_with fail
        go_ret
        exact ⟨rfl, FJ⟩
end
set_option maxRecDepth 100000 in
theorem checkR {w : World} {p : Nat} {O : Nat → Prop} (H : RIx w p O) : Calls Try.prog 18 #[.pointer (some ⟨p, 0, none⟩)] w fun e w' => e = .returned (.bool true) ∧ Fr (fun _ => False) w w' := by
  obtain ⟨lx, bb, ab, r, H⟩ := H
  rcases H.idle with ⟨a, _⟩ | ⟨tb, T, i, ns, fl, er, q, P, _, h1, h2⟩
  · exact check_emp a
  · have h := check_pm P h1 h2
    dsimp only at h
    exact h
set_option maxRecDepth 100000 in
set_option maxHeartbeats 4000000 in
theorem newR {w : World} {lx bb : Nat} {r : R} (L : LRep w lx bb r) : Calls Try.prog 11 #[.pointer (some ⟨lx, 0, none⟩)] w fun e w' => ∃ p, e = .returned (.pointer (some ⟨p, 0, none⟩)) ∧ RIx w' p (fun c => c = lx ∨ c = bb ∨ (w.heap.size ≤ c ∧ c < w'.heap.size)) ∧ Fr (fun _ => False) w w' ∧ w.heap.size ≤ p := by
  have hl := L.lt
  go_enter Try.func11, Try.ntmps11
  go_wp2_with (refine wpList_makeB (by rfl) 38 _ _ (by rfl) 67 8 72 zNode 200 (by rfl) (by rfl) Try.underlying38 (by kernel_rfl) (by kernel_rfl) (by kernel_rfl) (by omega) (by omega) ?_; intro w2 f2 s2 hb2)
  go_ret
  clear hl
  have hl := L.lt
  have f3 := f2.alloc (.cells #[.pointer (some ⟨lx, 0, none⟩), .slice none 0 0, .int .i64 0, .slice (some ⟨w.heap.size, 0, none⟩) 200 200, .int .i64 0, .bool false, .int .i64 0, .int .i64 0] 54)
  have sz : (w2.alloc (.cells #[.pointer (some ⟨lx, 0, none⟩), .slice none 0 0, .int .i64 0, .slice (some ⟨w.heap.size, 0, none⟩) 200 200, .int .i64 0, .bool false, .int .i64 0, .int .i64 0] 54)).heap.size = w.heap.size + 2 := by simp [World.size_alloc, s2]
  refine ⟨w.heap.size + 1, rfl, ⟨lx, bb, w.heap.size, r, L.frame f3 (fun h => h) (fun h => h), .inl ⟨?_, by omega, _, hb2.alloc _⟩, ⟨.inr (.inr (by rw [sz]; omega)), .inl rfl, .inr (.inl rfl), .inr (.inr (by rw [sz]; omega))⟩, ⟨by omega, by omega, by omega, by omega⟩, fun c hc => by rw [sz]; omega⟩, f3, by omega⟩
  rw [← s2]
  exact Blk.new w2 _ _ _ fun o ho => by
    rcases lt8c (show o < 8 from ho) with rfl | rfl | rfl | rfl | rfl | rfl | rfl | rfl <;> rfl
end Go.Proofs.Qxb6500280a
