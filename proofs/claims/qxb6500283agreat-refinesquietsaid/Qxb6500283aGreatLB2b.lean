/- The law: SameSplit. -/
import Derived.Test.Qxb6500283aGreatLB2p
namespace Go.Proofs.Qxb6500283aGreat
open Go Go.RowKit

set_option maxRecDepth 100000 in
set_option maxHeartbeats 16000000 in
theorem sameSplit_any {w : World} {A : Fa} {B : Ma} {d : Nat} {D : Dk} {G K : Nat} (L : Law w A B d (fun _ => False) D G K) (hG : G ≤ 700000000000000000) (hK : K ≤ 800000000000000000) (p : Option Addr) :
    Calls Tryz.prog 36 #[.agg #[.pointer p], .pointer (some ⟨A.fb, 0, none⟩), .pointer (some ⟨B.mb, 0, none⟩), .pointer (some ⟨d, 0, none⟩)] w (PPost w A B d D G K) := by
  have f0 := ((Fr.refl (fun _ => False) w).alloc (.cells #[.pointer p] 31)).drew
  have hb := (bx1 w p).drew
  have L0 := L.same f0
  have F0 : Fr (PW A B d D) w _ := f0.mono (fun _ _ h => h.elim)
  have PL : ∀ c, PW A B d D c → c < w.heap.size := fun c hc => L.pwlt hc
  obtain ⟨c0, c1, hdl⟩ := L0.regs
  obtain ⟨fc, fp, hF⟩ := L0.fnd
  go_enter Tryz.func36, Tryz.ntmps36
  go_wp2_with fail
  refine wp_region_text (by kernel_rfl) (by kernel_rfl) ?_
  go_wp2_with fail
  refine (splitF hF hG D.pat D.sub).mono ?_
  rintro v w1 ⟨er, q, lv, cs, rfl, hS1, hV1, hl1, ho1, ⟨fc1, hF1⟩, f1⟩
  have L1 := (L0.real f1 ⟨_, _, hF1⟩ ho1).same (Fr.refl (fun _ => False) w1).drew
  have hb1 := (hb.frame f1 (fun hc => by have := PL w.heap.size (hc.elim .inl (fun h => .inr (.inl h))); omega)).drew
  have F1 := (F0.trans f1 (fun c _ hc => hc.elim .inl (fun h => .inr (.inl h)))).drew
  have V1 := hV1.frame (Fr.refl (fun _ => False) w1).drew (fun _ _ h => h)
  clear c0 c1 hdl hF1 f1 hF L0 hb hV1
  obtain ⟨c0, c1, hdl⟩ := L1.regs
  go_wp2_with fail
  refine ⟨by kernel_rfl, ?_⟩
  go_wp2_with fail
  refine wp_region_text (by kernel_rfl) (by kernel_rfl) ?_
  go_wp2_with fail
  refine (splitM L1.md (by omega) D.pat D.sub).mono ?_
  rintro v w2 ⟨er2, q2, lu, cs2, rfl, hS2, hV2, hl2, ho2, hM2, f2⟩
  obtain ⟨rfl, rfl, rfl⟩ := hS1.det hS2
  have L2 := (L1.modelY f2 hM2 (Y' := fun c => isBk lu c) (fun c hc => ⟨ho2 c hc, hV2.bk hc⟩))
  have hb2 := hb1.frame f2 (fun hc => by have := PL w.heap.size (.inr (.inr (.inl hc))); omega)
  have F2 := F1.trans f2 (fun c _ hc => .inr (.inr (.inl hc)))
  have V2 := V1.frame f2 (fun c hc hm => by have := L1.bd c hm; have := L1.far c (.inr (.inr hc)); omega)
  have U2 := hV2.at
  clear c0 c1 hdl f2 hM2 hV2 V1 L1 hb1 F1 ho1 ho2 hl2 hS2 hS1
  obtain ⟨ua, uk, rfl⟩ := U2.sl
  go_wp2_with fail
  refine ⟨by kernel_rfl, ?_⟩
  go_wp2_with fail
  refine (sameCut_any V2.at U2 (by omega)).mono ?_
  rintro v w3 ⟨rfl, f3⟩
  have L3 := L2.same f3
  have hb3 := hb2.frame f3 (fun h => h)
  have F3 := F2.trans f3 (fun _ _ h => h.elim)
  have V3 := V2.frame f3 (fun _ _ h => h)
  have U3 := U2.frame f3 (fun _ _ h => h)
  have b0 := hb3.cell (o := 0) (by omega)
  have bl := hb3.lt
  clear L2 hb2 F2 V2 U2 f3
  go_wp2_with fail
  refine (dfaFirst_any p _ _ _).mono ?_
  rintro v w4 ⟨rfl, f4⟩
  have L4 := L3.same f4
  have F4 := F3.trans f4 (fun _ _ h => h.elim)
  have V4 := V3.frame f4 (fun _ _ h => h)
  have U4 := U3.frame f4 (fun _ _ h => h)
  clear L3 hb3 b0 bl F3 V3 U3 f4
  go_wp2_with fail
  refine L4.again.mono ?_
  rintro v w5 ⟨rfl, ⟨D', hc, L5⟩, f5⟩
  have F5 := F4.trans f5 (fun c _ h => .inr (.inr (.inr h)))
  have hYd : ∀ c, (False ∨ isBk lv c) ∨ isBk (.slice ua cs.length uk) c → ¬ (c = d ∨ isBk D.ax c ∨ isBk D.cx c) := fun c hy hh => by
    rcases hh with hh | hh | hh
    · have := L4.far c (.inr hy); omega
    · exact L4.yd c hy (.inl hh)
    · exact L4.yd c hy (.inr (.inr (.inl hh)))
  have V5 := V4.frame f5 (fun c h => hYd c (.inl (.inr h)))
  have U5 := U4.frame f5 (fun c h => hYd c (.inr h))
  clear L4 F4 V4 U4 f5 hYd
  have g1 := L5.dk.cell (o := 4) (by omega)
  have g2 := L5.dk.cell (o := 5) (by omega)
  have hz := L5.dk.frozen
  have hdl := L5.dk.lt
  obtain ⟨va, vk, rfl⟩ := V5.at.sl
  go_wp2_with fail
  refine bodyPost_ret (v := .bool true) (by simp [results, Tryz.results36, go_sem]) rfl ?_
  have k := ((Fr.refl (fun c => c = d) w5).setC d 4 (.slice va cs.length vk) (fun _ => rfl)).setC d 5 (.slice ua cs.length uk) (fun _ => rfl)
  have hd := ((L5.dk.set 4 (.slice va cs.length vk)).set 5 (.slice ua cs.length uk)).congr (dk_cutX D' _ _)
  exact ⟨rfl, ⟨_, (L5.ofCut hc V5 U5 (by omega) (fun c h => h.elim (fun h => .inl (.inr h)) .inr) k hd).le (by omega) (by omega)⟩, F5.trans k (fun c _ e => .inr (.inr (.inr (.inl e))))⟩
end Go.Proofs.Qxb6500283aGreat
