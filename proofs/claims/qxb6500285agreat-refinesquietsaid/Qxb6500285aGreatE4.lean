/- The engine's Code, cellFine, Check. -/
import Derived.Test.Qxb6500285aGreatE1
import Derived.Test.Qxb6500285aGreatE0
namespace Go.Proofs.Qxb6500285aGreat
open Go Go.RowKit

/-- What Code answers. -/
inductive CodeS (p : ByteArray) : Int → Int → List In → Prop
  | long : 128 < p.size → CodeS p 12 0 []
  | err {o : Ans} {e : Er} : p.size ≤ 128 → ModelL p o → coreO o = .error e → CodeS p e.1 (e.2 : Nat) []
  | ok {ns : List Nd} {y g : Nat} {r : Rx} {code : List In} : p.size ≤ 128 → ModelL p (.ok (ns, y, g)) → (zz ns y).2 ≤ 31 → IsT ns y r → RxW r → OkProg code → (∀ (s : ByteArray) (m a : Nat), a + m ≤ s.size + 1 → runFrom code s m a = leftG (wy s r) m a) → CodeS p 0 0 code
section
variable {X : Nat → Prop} {w : World} {e sm x pk df : Nat} {a b : Ent} {G : Nat}
set_option maxRecDepth 100000 in
set_option maxHeartbeats 8000000 in
theorem codeG (h : Eng X w e sm x pk df a b G) (p : ByteArray) :
    Calls Tryz.prog 40 #[.pointer (some ⟨e, 0, none⟩), .string p] w fun v w' => ∃ er q pv code, v = .returned (.tuple #[pv, .int .i64 er, .int .i64 q]) ∧ CodeS p er q code ∧ LVi w' pv code ∧ (∀ b, isBlk pv b → w.heap.size ≤ b) ∧ ∃ n m, Eng (fun c => X c ∨ isBlk pv c) w' e sm x pk df n m G ∧ Fr (EO e sm x pk df) w w' := by
  by_cases hL : 128 < p.size
  · have hp1 : 128 < (p.size : Int) := by omega
    go_enter Tryz.func40, Tryz.ntmps40
    go_wp2_with fail
    refine bodyPost_ret (v := .tuple #[.slice none 0 0, .int .i64 12, .int .i64 0]) (by simp [results, Tryz.results40, go_sem]) rfl ?_
    exact ⟨12, 0, .slice none 0 0, [], rfl, .long hL, .inl ⟨rfl, rfl⟩, fun b hb => absurd hb (noBlk b), a, b, h.sub (fun c hc => hc.elim id (fun hc => absurd hc (noBlk c))), Fr.refl _ _⟩
  · have hps : p.size ≤ 128 := by omega
    have hp1 : (p.size : Int) ≤ 128 := by omega
    go_enter Tryz.func40, Tryz.ntmps40
    go_wp2_with fail
    refine (recallG h p hps).mono ?_
    rintro v w3 ⟨rfl, n, m, hn, h3, f3⟩
    obtain ⟨c0, c1, c2, c3, c4, c5, c6, c7, _⟩ := eCells h3.mem.blk
    cases hn with
    | @err o er hM hO2 =>
      simp only at c6 c7
      have hne := coreO_err hM hO2
      have t1 : (er.1 != 0) = true := by simpa using hne
      have HM : Hid _ := hM
      have HO : Hid _ := hO2
      clear hM hO2 hne
      go_wp2_with fail
      refine wp_region_text (by kernel_rfl) (by kernel_rfl) ?_
      go_wp2_with fail
      refine ⟨by kernel_rfl, ?_⟩
      go_wp2_with fail
      refine bodyPost_ret (v := .tuple #[.slice none 0 0, .int .i64 er.1, .int .i64 (er.2 : Nat)]) (by simp [results, Tryz.results40, go_sem]) rfl ?_
      have k4 := (Fr.refl (fun _ => False) w3).drew
      exact ⟨_, _, .slice none 0 0, [], rfl, .err hps HM.out HO.out, .inl ⟨rfl, rfl⟩, fun b hb => absurd hb (noBlk b), _, m, (h3.same k4).sub (fun c hc => hc.elim id (fun hc => absurd hc (noBlk c))), f3.drew⟩
    | @ok ns y g cb r code f hM hz hok hT hW hrun hcb hH =>
      simp only at c5 c6 c7
      have hlen : code.length ≤ 65 := by have := hok.max; omega
      have hpos := hok.pos
      have H1 : Hid _ := hM
      have H2 : Hid _ := hrun
      have H3 : Hid _ := And.intro hz (And.intro hT hW)
      clear hM hrun hz hT hW
      have hCA : CodeAt w3 (.slice (some ⟨cb, 0, none⟩) code.length code.length) code := .inr ⟨cb, _, f, rfl, Nat.le_refl _, hcb, hH⟩
      go_wp2_with fail
      refine (copyProg_any hCA hlen).mono ?_
      rintro v w4 ⟨rfl, f4, hs4, f', hb4, hH4⟩
      go_wp2_with fail
      refine bodyPost_ret (v := .tuple #[.slice (some ⟨w3.heap.size, 0, none⟩) code.length code.length, .int .i64 0, .int .i64 0]) (by simp [results, Tryz.results40, go_sem]) rfl ?_
      have hz3 := f3.size
      exact ⟨0, 0, _, code, rfl, .ok hps H1.out H3.out.1 H3.out.2.1 H3.out.2.2 hok H2.out, .inr ⟨_, f', rfl, hb4, hH4, hpos⟩, fun b hb => by rw [isBlk_one hb]; exact hz3, _, m, h3.step f4 (fun _ h => h.elim) (fun c hc => hc.imp id (fun hc => by rw [isBlk_one hc]; exact ⟨Nat.le_refl _, hs4⟩)), f3.trans f4 (fun _ _ h => h.elim)⟩
end
section
variable {w : World} {e sm pk df : Nat} {a b : Ent}
set_option maxRecDepth 100000 in
set_option maxHeartbeats 8000000 in
theorem cellFine0 (hE : Blk w e 13 (eCell sm pk df a b)) (h : EntOk w a) : Calls Tryz.prog 27 #[.pointer (some ⟨e, 0, none⟩), .int .i64 0] w fun v w' => v = .returned (.bool true) ∧ Fr (fun _ => False) w w' := by
  obtain ⟨c0, c1, c2, c3, c4, c5, c6, c7, c8, c9, c10, c11, c12⟩ := eCells hE
  have hl := hE.lt
  have e0 : ∀ w, (binOp .eql 44 (.slice none 0 0) (.slice none 0 0)).run Tryz.prog w = .ok (.bool true) w := fun w => run_eql_nil_slice w 44 122 none 0 0 0 0 Tryz.underlying44
  cases h with
  | no =>
    simp only [ent0] at c3 c4 c5 c6 c7
    go_enter Tryz.func27, Tryz.ntmps27
    go_wp2_with fail
    go_ret
    exact ⟨rfl, (Fr.refl _ _).alloc _⟩
  | @us p0 n0 hp hu =>
    cases hu with
    | @err o er hM hO2 =>
      simp only at c3 c4 c5 c6 c7
      have hne := coreO_err hM hO2
      have t1 : (er.1 != 0) = true := by simpa using hne
      clear hM hO2 hne
      go_enter Tryz.func27, Tryz.ntmps27
      go_wp2_with fail
      go_ret
      exact ⟨rfl, (Fr.refl _ _).alloc _⟩
    | @ok ns y g cb r code f hM hz hok hT hW hrun hcb hH =>
      simp only at c3 c4 c5 c6 c7
      have hlen : code.length < 1000000 := by have := hok.max; omega
      have hq := progOK_of hok
      have hP : PAt w cb code := hH.at hcb (Nat.le_refl _)
      clear hM hrun hz hT hW
      go_enter Tryz.func27, Tryz.ntmps27
      go_wp2_with fail
      have k := (Fr.refl (fun _ => False) w).alloc (.cells #[.bool true, .string p0, .slice (some ⟨cb, 0, none⟩) code.length code.length, .int .i64 0, .int .i64 0] 65)
      refine (progok_any code cb code.length (hP.frame k (fun h => h)) hlen).mono ?_
      rintro v w4 ⟨rfl, f4⟩
      rw [hq]
      go_wp2_with fail
      go_ret
      exact ⟨rfl, k.trans f4 (fun _ _ h => h)⟩
end
section
variable {w : World} {e sm pk df : Nat} {a b : Ent}
set_option maxRecDepth 100000 in
set_option maxHeartbeats 8000000 in
theorem cellFine1 (hE : Blk w e 13 (eCell sm pk df a b)) (h : EntOk w b) : Calls Tryz.prog 27 #[.pointer (some ⟨e, 0, none⟩), .int .i64 1] w fun v w' => v = .returned (.bool true) ∧ Fr (fun _ => False) w w' := by
  obtain ⟨c0, c1, c2, c3, c4, c5, c6, c7, c8, c9, c10, c11, c12⟩ := eCells hE
  have hl := hE.lt
  have e0 : ∀ w, (binOp .eql 44 (.slice none 0 0) (.slice none 0 0)).run Tryz.prog w = .ok (.bool true) w := fun w => run_eql_nil_slice w 44 122 none 0 0 0 0 Tryz.underlying44
  cases h with
  | no =>
    simp only [ent0] at c8 c9 c10 c11 c12
    go_enter Tryz.func27, Tryz.ntmps27
    go_wp2_with fail
    go_ret
    exact ⟨rfl, (Fr.refl _ _).alloc _⟩
  | @us p0 n0 hp hu =>
    cases hu with
    | @err o er hM hO2 =>
      simp only at c8 c9 c10 c11 c12
      have hne := coreO_err hM hO2
      have t1 : (er.1 != 0) = true := by simpa using hne
      clear hM hO2 hne
      go_enter Tryz.func27, Tryz.ntmps27
      go_wp2_with fail
      go_ret
      exact ⟨rfl, (Fr.refl _ _).alloc _⟩
    | @ok ns y g cb r code f hM hz hok hT hW hrun hcb hH =>
      simp only at c8 c9 c10 c11 c12
      have hlen : code.length < 1000000 := by have := hok.max; omega
      have hq := progOK_of hok
      have hP : PAt w cb code := hH.at hcb (Nat.le_refl _)
      clear hM hrun hz hT hW
      go_enter Tryz.func27, Tryz.ntmps27
      go_wp2_with fail
      have k := (Fr.refl (fun _ => False) w).alloc (.cells #[.bool true, .string p0, .slice (some ⟨cb, 0, none⟩) code.length code.length, .int .i64 0, .int .i64 0] 65)
      refine (progok_any code cb code.length (hP.frame k (fun h => h)) hlen).mono ?_
      rintro v w4 ⟨rfl, f4⟩
      rw [hq]
      go_wp2_with fail
      go_ret
      exact ⟨rfl, k.trans f4 (fun _ _ h => h)⟩
end
section
variable {X : Nat → Prop} {w : World} {e sm x pk df : Nat} {a b : Ent} {G : Nat}
set_option maxRecDepth 100000 in
set_option maxHeartbeats 8000000 in
theorem checkG (h : Eng X w e sm x pk df a b G) : Calls Tryz.prog 13 #[.pointer (some ⟨e, 0, none⟩)] w fun v w' => v = .returned (.bool true) ∧ Fr (fun _ => False) w w' := by
  go_enter Tryz.func13, Tryz.ntmps13
  go_wp2_with fail
  refine wp_loop_rounds 3 ?_
  rw [rounds_succ]
  go_wp2_with fail
  refine (cellFine0 h.mem.blk h.mem.oa).mono ?_
  rintro v w1 ⟨rfl, f1⟩
  go_wp2_with fail
  rw [rounds_succ]
  go_wp2_with fail
  refine (cellFine1 (h.mem.blk.frame f1 (fun h => h)) (h.mem.ob.frame f1 (fun _ _ h => h))).mono ?_
  rintro v w2 ⟨rfl, f2⟩
  have F2 := f1.trans f2 (fun _ _ h => h)
  have hE2 := h.mem.blk.frame F2 (fun h => h)
  obtain ⟨c0, c1, c2, c3, c4, c5, c6, c7, c8, c9, c10, c11, c12⟩ := eCells hE2
  have hl := hE2.lt
  cases hu : b.used with
  | false =>
    rw [hu] at c8
    go_wp2_with fail
    rw [rounds_succ]
    go_wp2_with fail
    go_ret
    exact ⟨rfl, F2⟩
  | true =>
    obtain ⟨hau, hne⟩ := h.mem.ord hu
    rw [hu] at c8
    rw [hau] at c3
    have t1 := strNe hne
    go_wp2_with fail
    rw [rounds_succ]
    go_wp2_with fail
    refine wp_region_text (by kernel_rfl) (by kernel_rfl) ?_
    go_wp2_with fail
    refine ⟨by kernel_rfl, ?_⟩
    go_wp2_with fail
    go_ret
    exact ⟨rfl, F2.drew⟩
end
end Go.Proofs.Qxb6500285aGreat
