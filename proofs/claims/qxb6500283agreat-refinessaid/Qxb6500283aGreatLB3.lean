/- The law: SameReplace. -/
import Derived.Test.Qxb6500283aGreatLB2p
namespace Go.Proofs.Qxb6500283aGreat
open Go Go.RowKit

set_option maxRecDepth 100000 in
set_option maxHeartbeats 16000000 in
theorem sameReplace_any {w : World} {A : Fa} {B : Ma} {d : Nat} {D : Dk} {G K : Nat} (L : Law w A B d (fun _ => False) D G K) (hG : G ≤ 700000000000000000) (hK : K ≤ 800000000000000000) (p : Option Addr) (t : ByteArray) :
    Calls Tryz.prog 35 #[.agg #[.pointer p], .pointer (some ⟨A.fb, 0, none⟩), .pointer (some ⟨B.mb, 0, none⟩), .pointer (some ⟨d, 0, none⟩), .string t] w (PPost w A B d D G K) := by
  have f0 := ((Fr.refl (fun _ => False) w).alloc (.cells #[.pointer p] 31)).drew
  have hb := (bx1 w p).drew
  have L0 := L.same f0
  have F0 : Fr (PW A B d D) w _ := f0.mono (fun _ _ h => h.elim)
  have PL : ∀ c, PW A B d D c → c < w.heap.size := fun c hc => L.pwlt hc
  obtain ⟨c0, c1, hdl⟩ := L0.regs
  obtain ⟨fc, fp, hF⟩ := L0.fnd
  go_enter Tryz.func35, Tryz.ntmps35
  go_wp2_with fail
  refine wp_region_text (by kernel_rfl) (by kernel_rfl) ?_
  go_wp2_with fail
  refine (replaceF hF hG D.pat D.sub t).mono ?_
  rintro v w1 ⟨er, q, x, rfl, hS1, hF1, f1⟩
  have L1 := (L0.real0 f1 hF1).same (Fr.refl (fun _ => False) w1).drew
  have hb1 := (hb.frame f1 (fun hc => by have := PL w.heap.size (hc.elim .inl (fun h => .inr (.inl h))); omega)).drew
  have F1 := (F0.trans f1 (fun c _ hc => hc.elim .inl (fun h => .inr (.inl h)))).drew
  clear c0 c1 hdl hF1 f1 hF L0 hb
  obtain ⟨c0, c1, hdl⟩ := L1.regs
  go_wp2_with fail
  refine ⟨by kernel_rfl, ?_⟩
  go_wp2_with fail
  refine wp_region_text (by kernel_rfl) (by kernel_rfl) ?_
  go_wp2_with fail
  refine (replaceM L1.md (by omega) D.pat D.sub t).mono ?_
  rintro v w2 ⟨er2, q2, x2, rfl, hS2, hM2, f2⟩
  obtain ⟨rfl, rfl, rfl⟩ := hS1.det hS2
  have L2 := L1.model f2 hM2
  have hb2 := hb1.frame f2 (fun hc => by have := PL w.heap.size (.inr (.inr (.inl hc))); omega)
  have F2 := F1.trans f2 (fun c _ hc => .inr (.inr (.inl hc)))
  clear c0 c1 hdl f2 hM2 L1 hb1 F1 hS2 hS1
  obtain ⟨c0, c1, hdl⟩ := L2.regs
  have b0 := hb2.cell (o := 0) (by omega)
  have bl := hb2.lt
  by_cases he : er = 0
  · subst he
    go_wp2_with fail
    refine ⟨by kernel_rfl, ?_⟩
    go_wp2_with fail
    refine wp_region_text (by kernel_rfl) (by kernel_rfl) ?_
    go_wp2_with fail
    have L2d := L2.same (Fr.refl (fun _ => False) w2).drew
    refine (findAllM L2d.md (by omega) D.pat D.sub).mono ?_
    rintro v w3 ⟨er3, q3, lu, cs3, rfl, _, hV3, _, _, hM3, f3⟩
    have L3 := L2d.model f3 hM3
    have hb3 := hb2.drew.frame f3 (fun hc => by have := PL w.heap.size (.inr (.inr (.inl hc))); omega)
    have F3 := F2.drew.trans f3 (fun c _ hc => .inr (.inr (.inl hc)))
    obtain ⟨ua, uk, rfl⟩ := hV3.at.sl
    clear c0 c1 hdl b0 bl L2 L2d hb2 F2 f3 hM3 hV3
    have b0 := hb3.cell (o := 0) (by omega)
    have bl := hb3.lt
    go_wp2_with fail
    refine ⟨by kernel_rfl, ?_⟩
    go_wp2_with fail
    refine (dfaFirst_any p _ _ _).mono ?_
    rintro v w4 ⟨rfl, f4⟩
    have L4 := L3.same f4
    have F4 := F3.trans f4 (fun _ _ h => h.elim)
    clear L3 hb3 b0 bl F3 f4
    go_wp2_with fail
    refine L4.again.mono ?_
    rintro v w5 ⟨rfl, ⟨D', hc, L5⟩, f5⟩
    have F5 := F4.trans f5 (fun c _ h => .inr (.inr (.inr h)))
    go_wp2_with fail
    refine bodyPost_ret (v := .bool true) (by simp [results, Tryz.results35, go_sem]) rfl ?_
    exact ⟨rfl, ⟨_, L5.le (by omega) (by omega)⟩, F5⟩
  · have he' : (er == 0) = false := by simpa using he
    have L3 := L2
    have F3 := F2
    have hb3 := hb2
    go_wp2_with fail
    refine ⟨by kernel_rfl, ?_⟩
    go_wp2_with fail
    refine (dfaFirst_any p _ _ _).mono ?_
    rintro v w4 ⟨rfl, f4⟩
    have L4 := L3.same f4
    have F4 := F3.trans f4 (fun _ _ h => h.elim)
    clear L3 hb3 b0 bl F3 f4
    go_wp2_with fail
    refine L4.again.mono ?_
    rintro v w5 ⟨rfl, ⟨D', hc, L5⟩, f5⟩
    have F5 := F4.trans f5 (fun c _ h => .inr (.inr (.inr h)))
    go_wp2_with fail
    refine bodyPost_ret (v := .bool true) (by simp [results, Tryz.results35, go_sem]) rfl ?_
    exact ⟨rfl, ⟨_, L5.le (by omega) (by omega)⟩, F5⟩
end Go.Proofs.Qxb6500283aGreat
