/- put: one case. -/
import Derived.Test.Qxb6500287aP4
namespace Go.Proofs.Qxb6500287a
open Go Go.RowKit

set_option maxRecDepth 100000 in
set_option maxHeartbeats 64000000 in
theorem put_repm0 {ns : List Nd} (hwf : WF ns) (h24 : ns.length ≤ 24) {x : Nat} (hx : x < ns.length) {na m u : Nat} {cp : Int} {st : BSet} (hnd : ns[x] = ⟨6, (na : Nat), -1, (m : Nat), (u : Nat), cp, false, st⟩) (hm : m ≤ 3) (hu : u ≤ 3) (hna : na < x) (ih : ∀ k, k < x → k < ns.length → PutC ns k) : PutC ns x := by
  intro w v l tb pl y g e q hpl ⟨ft, htb, hft⟩ hvt hv hlen
  have HLn : Hid _ := PutC.len hlen
  clear hlen
  obtain ⟨a, n, cap, rfl⟩ := hv.sl
  have hvl : ∀ b, isBlk (.slice a n cap) b → b < w.heap.size := fun b hb => hv.lt hb
  have hN := hft.at htb (Nat.le_refl _)
  have hxb : (x : Int) ≤ 23 := by omega
  have htl := htb.lt
  have n0 := hN x hx 0 (by omega)
  have n1 := hN x hx 1 (by omega)
  have n2 := hN x hx 2 (by omega)
  have n3 := hN x hx 3 (by omega)
  have n4 := hN x hx 4 (by omega)
  have n5 := hN x hx 5 (by omega)
  have n6 := hN x hx 6 (by omega)
  have n7 := hN x hx 7 (by omega)
  have n8 := hN x hx 8 (by omega)
  have n9 := hN x hx 9 (by omega)
  have n10 := hN x hx 10 (by omega)
  rw [hnd] at n0 n1 n2 n3 n4 n5 n6 n7 n8 n9 n10
  simp only [ndCell, Nat.add_zero] at n0 n1 n2 n3 n4 n5 n6 n7 n8 n9 n10
  have hm3 : (m : Int) ≤ 3 := by omega
  have hu3 : (u : Int) ≤ 3 := by omega
  have hu0 : decide ((0 : Int) ≤ (u : Nat)) = true := decide_eq_true (by omega)
  have hwt : wantsB 6 pl = false := by simp [wantsB]
  have F01 := ((Fr.refl (fun _ => False) w).alloc (.cells #[.slice (some ⟨tb, 0, none⟩) ns.length ns.length, .int .i64 y, .int .i64 g, .int .i64 e, .int .i64 q] 63)).alloc (.cells #[.int .i64 6, .int .i64 (na : Nat), .int .i64 (-1), .int .i64 (m : Nat), .int .i64 (u : Nat), .int .i64 cp, .bool false, .int .u64 (wd st 0 : Nat), .int .u64 (wd st 1 : Nat), .int .u64 (wd st 2 : Nat), .int .u64 (wd st 3 : Nat)] 49)
  have hT1 := (Blk.tree w (.slice (some ⟨tb, 0, none⟩) ns.length ns.length) y g e q).alloc (.cells #[.int .i64 6, .int .i64 (na : Nat), .int .i64 (-1), .int .i64 (m : Nat), .int .i64 (u : Nat), .int .i64 cp, .bool false, .int .u64 (wd st 0 : Nat), .int .u64 (wd st 1 : Nat), .int .u64 (wd st 2 : Nat), .int .u64 (wd st 3 : Nat)] 49)
  have hN1 := Blk.nd (w.alloc (.cells #[.slice (some ⟨tb, 0, none⟩) ns.length ns.length, .int .i64 y, .int .i64 g, .int .i64 e, .int .i64 q] 63)) ⟨6, (na : Nat), (-1), (m : Nat), (u : Nat), cp, false, st⟩
  simp only [World.size_alloc] at hN1
  generalize hW1 : (w.alloc (.cells #[.slice (some ⟨tb, 0, none⟩) ns.length ns.length, .int .i64 y, .int .i64 g, .int .i64 e, .int .i64 q] 63)).alloc (.cells #[.int .i64 6, .int .i64 (na : Nat), .int .i64 (-1), .int .i64 (m : Nat), .int .i64 (u : Nat), .int .i64 cp, .bool false, .int .u64 (wd st 0 : Nat), .int .u64 (wd st 1 : Nat), .int .u64 (wd st 2 : Nat), .int .u64 (wd st 3 : Nat)] 49) = W1 at F01 hT1 hN1
  have hv1 := hv.frame F01 (fun _ _ h => h)
  have hfr : ∀ {V : Value} {T : List Nat} {W : World}, Put W1 (.slice a n cap) l T V W → Blk W w.heap.size 5 (fun o => (#[.slice (some ⟨tb, 0, none⟩) ns.length ns.length, .int .i64 y, .int .i64 g, .int .i64 e, .int .i64 q] : Array Value).getD o undef) ∧ Blk W (w.heap.size + 1) 11 (ndCell ⟨6, (na : Nat), (-1), (m : Nat), (u : Nat), cp, false, st⟩) ∧ (∃ f, Blk W tb (ns.length * 11) f ∧ Holds11 f ns) ∧ (∀ b, isBlk V b → b ≠ tb) := fun {V T W} hP => by
    refine ⟨hT1.frame hP.fr (fun e => by have := hvl _ e; omega), hN1.frame hP.fr (fun e => by have := hvl _ e; omega), ⟨ft, (htb.frame F01 (fun h => h)).frame hP.fr (fun e => hvt _ e rfl), hft⟩, fun b hb e => ?_⟩
    rcases hP.bk b hb with e2 | e2
    · exact hvt b e2 e
    · have := htb.lt; have := F01.size; omega
  have hP0 : Put W1 (.slice a n cap) l [] (.slice a n cap) W1 := Put.nil hv1 (Fr.refl _ _)
  have hB0 := hfr hP0
  have m0_0 := hB0.2.1.cell (o := 0) (by omega)
  have m0_1 := hB0.2.1.cell (o := 1) (by omega)
  have m0_2 := hB0.2.1.cell (o := 2) (by omega)
  have m0_3 := hB0.2.1.cell (o := 3) (by omega)
  have m0_4 := hB0.2.1.cell (o := 4) (by omega)
  have m0_6 := hB0.2.1.cell (o := 6) (by omega)
  have m0_7 := hB0.2.1.cell (o := 7) (by omega)
  have m0_8 := hB0.2.1.cell (o := 8) (by omega)
  have m0_9 := hB0.2.1.cell (o := 9) (by omega)
  have m0_10 := hB0.2.1.cell (o := 10) (by omega)
  have c0_0 := hB0.1.cell (o := 0) (by omega)
  have c0_1 := hB0.1.cell (o := 1) (by omega)
  have c0_2 := hB0.1.cell (o := 2) (by omega)
  have c0_3 := hB0.1.cell (o := 3) (by omega)
  have c0_4 := hB0.1.cell (o := 4) (by omega)
  simp only [ndCell] at m0_0 m0_1 m0_2 m0_3 m0_4 m0_6 m0_7 m0_8 m0_9 m0_10
  simp only [getD5] at c0_0 c0_1 c0_2 c0_3 c0_4
  have lt0 := hB0.1.lt
  have ln0 := hB0.2.1.lt
  have hpr0 : pr ns x pl = (pr ns na 4) ++ ([123, 48 + m, 44]) ++ ([48 + u]) ++ ([125]) := by
    have e1 := pr_eq hwf hx pl
    rw [hnd] at e1
    simp only [hwt, wrapT, bodyT] at e1
    rw [e1]
    simp [repT]
  have Hpr : Hid _ := hpr0
  clear hpr0
  go_enter Try.func26, Try.ntmps26
  go_wp2_with fail
  refine (wants_any 6 pl hpl _).mono ?_
  rintro ee W1 ⟨rfl, rfl⟩
  rw [hwt]
  go_wp2_with fail
  have hln1 := HLn.out ([] ++ pr ns na 4) (([123, 48 + m, 44]) ++ ([48 + u]) ++ ([125])) (Hpr.out.trans (by simp))
  refine (ih na (by omega) (by omega) _ (.slice a n cap) (l ++ []) tb 4 y g e q (by omega) (hfr hP0).2.2.1 (hfr hP0).2.2.2 hP0.bt (by simp only [List.length_append] at hln1 ⊢; omega)).mono ?_
  clear hln1
  rintro ee w1 ⟨v1, rfl, hQ1⟩
  obtain ⟨a1, n1, cap1, rfl⟩ := hQ1.bt.sl
  have hP1 := hP0.trans hQ1
  clear m0_0 m0_1 m0_2 m0_3 m0_4 m0_6 m0_7 m0_8 m0_9 m0_10 c0_0 c0_1 c0_2 c0_3 c0_4
  have hB1 := hfr hP1
  have m1_0 := hB1.2.1.cell (o := 0) (by omega)
  have m1_1 := hB1.2.1.cell (o := 1) (by omega)
  have m1_2 := hB1.2.1.cell (o := 2) (by omega)
  have m1_3 := hB1.2.1.cell (o := 3) (by omega)
  have m1_4 := hB1.2.1.cell (o := 4) (by omega)
  have m1_6 := hB1.2.1.cell (o := 6) (by omega)
  have c1_0 := hB1.1.cell (o := 0) (by omega)
  have c1_1 := hB1.1.cell (o := 1) (by omega)
  have c1_2 := hB1.1.cell (o := 2) (by omega)
  have c1_3 := hB1.1.cell (o := 3) (by omega)
  have c1_4 := hB1.1.cell (o := 4) (by omega)
  simp only [ndCell] at m1_0 m1_1 m1_2 m1_3 m1_4 m1_6
  simp only [getD5] at c1_0 c1_1 c1_2 c1_3 c1_4
  have lt1 := hB1.1.lt
  have ln1 := hB1.2.1.lt
  go_wp2_with (at_builtin; first | (have F4 := (Fr.refl (fun _ => False) w3).alloc (.cells #[.int .u8 125] 5); have hv4 := hP3.bt.frame F4 (fun _ _ h => h); refine wpList_appendB (by rfl) _ _ (by rfl) (.slice a3 n3 cap3) (l ++ ((([] ++ pr ns na 4) ++ [123, 48 + m, 44]) ++ [48 + u])) [125] _ (by rfl) (by rfl) hv4 (fresh_bytes w3 [125] #[.int .u8 125] (by simp [btRow])) (by simp) (by simp) (by have := HLn.out ((([] ++ pr ns na 4) ++ [123, 48 + m, 44]) ++ [48 + u]) (([125])) (Hpr.out.trans (by simp)); omega) ?_; intro v4 w4 hQ4; obtain ⟨a4, n4, cap4, rfl⟩ := hQ4.bt.sl; have hP4 := hP3.trans (hQ4.pre F4); have hB4 := hfr hP4; have m4_0 := hB4.2.1.cell (o := 0) (by omega); have m4_1 := hB4.2.1.cell (o := 1) (by omega); have m4_2 := hB4.2.1.cell (o := 2) (by omega); have m4_3 := hB4.2.1.cell (o := 3) (by omega); have m4_4 := hB4.2.1.cell (o := 4) (by omega); have m4_6 := hB4.2.1.cell (o := 6) (by omega); have c4_0 := hB4.1.cell (o := 0) (by omega); have c4_1 := hB4.1.cell (o := 1) (by omega); have c4_2 := hB4.1.cell (o := 2) (by omega); have c4_3 := hB4.1.cell (o := 3) (by omega); have c4_4 := hB4.1.cell (o := 4) (by omega); simp only [ndCell] at m4_0 m4_1 m4_2 m4_3 m4_4 m4_6; simp only [getD5] at c4_0 c4_1 c4_2 c4_3 c4_4; have lt4 := hB4.1.lt; have ln4 := hB4.2.1.lt) | (have F3 := (Fr.refl (fun _ => False) w2).alloc (.cells #[.int .u8 (48 + (u : Int))] 5); have hv3 := hP2.bt.frame F3 (fun _ _ h => h); refine wpList_appendB (by rfl) _ _ (by rfl) (.slice a2 n2 cap2) (l ++ (([] ++ pr ns na 4) ++ [123, 48 + m, 44])) [48 + u] _ (by rfl) (by rfl) hv3 (fresh_bytes w2 [48 + u] #[.int .u8 (48 + (u : Int))] (by simp [btRow])) (by simp) (by simp) (by have := HLn.out (([] ++ pr ns na 4) ++ [123, 48 + m, 44]) (([48 + u]) ++ ([125])) (Hpr.out.trans (by simp)); omega) ?_; intro v3 w3 hQ3; obtain ⟨a3, n3, cap3, rfl⟩ := hQ3.bt.sl; have hP3 := hP2.trans (hQ3.pre F3); have hB3 := hfr hP3; have m3_0 := hB3.2.1.cell (o := 0) (by omega); have m3_1 := hB3.2.1.cell (o := 1) (by omega); have m3_2 := hB3.2.1.cell (o := 2) (by omega); have m3_3 := hB3.2.1.cell (o := 3) (by omega); have m3_4 := hB3.2.1.cell (o := 4) (by omega); have m3_6 := hB3.2.1.cell (o := 6) (by omega); have c3_0 := hB3.1.cell (o := 0) (by omega); have c3_1 := hB3.1.cell (o := 1) (by omega); have c3_2 := hB3.1.cell (o := 2) (by omega); have c3_3 := hB3.1.cell (o := 3) (by omega); have c3_4 := hB3.1.cell (o := 4) (by omega); simp only [ndCell] at m3_0 m3_1 m3_2 m3_3 m3_4 m3_6; simp only [getD5] at c3_0 c3_1 c3_2 c3_3 c3_4; have lt3 := hB3.1.lt; have ln3 := hB3.2.1.lt) | (have F2 := (Fr.refl (fun _ => False) w1).alloc (.cells #[.int .u8 123, .int .u8 (48 + (m : Int)), .int .u8 44] 5); have hv2 := hP1.bt.frame F2 (fun _ _ h => h); refine wpList_appendB (by rfl) _ _ (by rfl) (.slice a1 n1 cap1) (l ++ ([] ++ pr ns na 4)) [123, 48 + m, 44] _ (by rfl) (by rfl) hv2 (fresh_bytes w1 [123, 48 + m, 44] #[.int .u8 123, .int .u8 (48 + (m : Int)), .int .u8 44] (by simp [btRow])) (by simp) (by simp) (by have := HLn.out ([] ++ pr ns na 4) (([123, 48 + m, 44]) ++ ([48 + u]) ++ ([125])) (Hpr.out.trans (by simp)); omega) ?_; intro v2 w2 hQ2; obtain ⟨a2, n2, cap2, rfl⟩ := hQ2.bt.sl; have hP2 := hP1.trans (hQ2.pre F2); have hB2 := hfr hP2; have m2_0 := hB2.2.1.cell (o := 0) (by omega); have m2_1 := hB2.2.1.cell (o := 1) (by omega); have m2_2 := hB2.2.1.cell (o := 2) (by omega); have m2_3 := hB2.2.1.cell (o := 3) (by omega); have m2_4 := hB2.2.1.cell (o := 4) (by omega); have m2_6 := hB2.2.1.cell (o := 6) (by omega); have c2_0 := hB2.1.cell (o := 0) (by omega); have c2_1 := hB2.1.cell (o := 1) (by omega); have c2_2 := hB2.1.cell (o := 2) (by omega); have c2_3 := hB2.1.cell (o := 3) (by omega); have c2_4 := hB2.1.cell (o := 4) (by omega); simp only [ndCell] at m2_0 m2_1 m2_2 m2_3 m2_4 m2_6; simp only [getD5] at c2_0 c2_1 c2_2 c2_3 c2_4; have lt2 := hB2.1.lt; have ln2 := hB2.2.1.lt))
  go_ret
  have hT : (((([] ++ pr ns na 4) ++ [123, 48 + m, 44]) ++ [48 + u]) ++ [125]) = pr ns x pl := by first | exact Hpr.out.symm | (rw [Hpr.out]; simp)
  rw [hT] at hP4
  exact ⟨_, rfl, hP4.pre F01⟩
end Go.Proofs.Qxb6500287a
