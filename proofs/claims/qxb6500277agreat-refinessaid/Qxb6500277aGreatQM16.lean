/- The model parser: Parse, New. -/
import Derived.Test.Qxb6500277aGreatQM15
namespace Go.Proofs.Qxb6500277aGreat
open Go Go.RowKit

def MIx (w : World) (m : Nat) : Prop := ∃ q, Blk w m 1 (fun _ => .pointer q)
theorem MIx.frame {w w' : World} {m : Nat} {S : Nat → Prop} (h : MIx w m) (k : Fr S w w') (hs : ¬ S m) : MIx w' m := by
  obtain ⟨q, h⟩ := h
  exact ⟨q, h.frame k hs⟩
set_option maxRecDepth 100000 in
set_option maxHeartbeats 1000000 in
theorem newMP (w : World) : Calls Tryz.prog 41 #[] w fun e w' => ∃ m, e = .returned (.pointer (some ⟨m, 0, none⟩)) ∧ MIx w' m ∧ Fr (fun _ => False) w w' ∧ w.heap.size ≤ m := by
  go_enter Tryz.func41, Tryz.ntmps41
  go_wp2_with fail
  refine (mnewL w).mono ?_
  rintro e w1 ⟨⟨q, rfl⟩, f1⟩
  go_wp2_with fail
  go_ret
  refine ⟨w1.heap.size, rfl, ⟨q, ?_⟩, f1.alloc _, f1.size⟩
  exact Blk.new w1 #[.pointer q] 153 _ fun o ho => by
    have : o < 1 := ho
    obtain rfl : o = 0 := by omega
    rfl
/-- What the model's Parse answers. -/
def PaM (w : World) (src : ByteArray) (e : Ending) (w' : World) : Prop := ∃ v ns root err pos, e = .returned (treeV v root err pos) ∧ Fr (fun _ => False) w w' ∧ NLV w' v ns ∧ (∀ b, isBlk v b → w.heap.size ≤ b) ∧ Ans src ns root err pos
set_option maxRecDepth 100000 in
set_option maxHeartbeats 4000000 in
theorem parseM_err {w : World} {m : Nat} (H : MIx w m) (src : ByteArray) (h0 : ansErr src ≠ 0) : Calls Tryz.prog 49 #[.pointer (some ⟨m, 0, none⟩), .string src] w (PaM w src) := by
  obtain ⟨q, hm⟩ := H
  have c0 := hm.cell (o := 0) (by omega)
  have hml := hm.lt
  have f1 := (Fr.refl (fun _ => False) w).alloc box4
  go_enter Tryz.func49, Tryz.ntmps49
  go_wp2_with fail
  refine (modelL _ src).mono ?_
  rintro e w1 ⟨v, rfl, k1, hv, hvb⟩
  have hv0 : v = .slice none 0 0 := by
    rcases ansErr_ts src with h | h
    · exact absurd h.1 h0
    · rw [h.2] at hv
      rcases hv with h | ⟨b, _, _, h⟩
      · exact h.1
      · simp at h
  subst hv0
  unfold toksV
  have hb1 := (box4_blk w).frame k1 (fun h => h)
  have F1 := f1.trans k1 (fun _ _ h => h)
  have HB1 : Hid (Blk w1 w.heap.size 4 _) := hb1
  have d0 := hb1.cell (o := 0) (by omega)
  have d1 := hb1.cell (o := 1) (by omega)
  have d2 := hb1.cell (o := 2) (by omega)
  have d3 := hb1.cell (o := 3) (by omega)
  have dz := hb1.frozen
  have hd1 := hb1.lt
  simp only at d0 d1 d2 d3
  have hb0 : (ansErr src != 0) = true := by simpa using h0
  clear hb1 k1 hv hvb f1 c0 hml hm
  go_wp2_with fail
  have Z1 := ((((HB1.out.set 0 (.slice none 0 0)).set 1 (.int .i64 (-1))).set 2 (.int .i64 (ansErr src))).set 3 (.int .i64 (ansPos src))) |>.alloc (.cells #[.slice none 0 0, .int .i64 (ansErr src), .int .i64 (ansPos src)] 159)
  have q0 := Z1.cell (o := 0) (by omega)
  have q1 := Z1.cell (o := 1) (by omega)
  have q2 := Z1.cell (o := 2) (by omega)
  have q3 := Z1.cell (o := 3) (by omega)
  simp only [upd] at q0 q1 q2 q3
  refine bodyPost_ret (v := treeV (.slice none 0 0) (-1) (ansErr src) (ansPos src)) (by simp [results, Tryz.results49, go_sem, treeV, q0, q1, q2, q3]) rfl ?_
  exact ⟨_, [], _, _, _, rfl, (((((F1).setNew (b := w.heap.size) (o := 0) (u := .slice none 0 0) (Nat.le_refl _)).setNew (b := w.heap.size) (o := 1) (u := .int .i64 (-1)) (Nat.le_refl _)).setNew (b := w.heap.size) (o := 2) (u := .int .i64 (ansErr src)) (Nat.le_refl _)).setNew (b := w.heap.size) (o := 3) (u := .int .i64 (ansPos src)) (Nat.le_refl _)).alloc _, .inl ⟨rfl, rfl⟩, fun b hb => (isBlk_nil hb).elim, .inl ⟨h0, rfl, rfl, rfl, rfl⟩⟩
theorem SM.start {w : World} {tb : Nat} {T : List Tok} (ht : TokAt w tb T) (hT : TkOk T) (o : Obj) : SM ((w.alloc o).alloc (.cells #[.slice (some ⟨tb, 0, none⟩) T.length T.length, .int .i64 0, .slice none 0 0, .int .i64 0, .int .i64 0] 163)) (w.heap.size + 1) tb T 0 [] 0 0 (.slice none 0 0) := by
  have htl := Blk.lt ht
  have hbn := Blk.new (w.alloc o) #[.slice (some ⟨tb, 0, none⟩) T.length T.length, .int .i64 0, .slice none 0 0, .int .i64 0, .int .i64 0] 163 (sCell tb T.length 0 (.slice none 0 0) 0 0) (fun o ho => by
    rcases lt5c (show o < 5 from ho) with rfl | rfl | rfl | rfl | rfl <;> rfl)
  rw [World.size_alloc] at hbn
  exact ⟨hbn, (Blk.frame ht ((Fr.refl (fun _ => False) _).alloc o) (fun h => h)).frame ((Fr.refl (fun _ => False) _).alloc _) (fun h => h), .inl ⟨rfl, rfl⟩, hT, hT.pos, by simp, by omega, fun h => isBlk_nil h, fun h => isBlk_nil h⟩
theorem bufN_one (p : List Nd) (o : Nat) : (bufN p o).oneCell' = true := by
  unfold bufN
  generalize p.getD (o / 8) nd0 = x
  rcases lt8c (show o % 8 < 8 by omega) with h | h | h | h | h | h | h | h <;> rw [h] <;> rfl
set_option maxRecDepth 100000 in
set_option maxHeartbeats 8000000 in
theorem parseM_ok {w : World} {m : Nat} (H : MIx w m) (src : ByteArray) (h0 : ansErr src = 0) : Calls Tryz.prog 49 #[.pointer (some ⟨m, 0, none⟩), .string src] w (PaM w src) := by
  obtain ⟨q, hm⟩ := H
  have c0 := hm.cell (o := 0) (by omega)
  have hml := hm.lt
  have f1 := (Fr.refl (fun _ => False) w).alloc box4
  go_enter Tryz.func49, Tryz.ntmps49
  go_wp2_with fail
  refine (modelL _ src).mono ?_
  rintro e w1 ⟨v, rfl, k1, hv, hvb⟩
  have hT := ansTs_ok h0
  obtain ⟨tb, hv0, htk⟩ : ∃ tb, v = .slice (some ⟨tb, 0, none⟩) (ansTs src).length (ansTs src).length ∧ TokAt w1 tb (ansTs src) := by
    rcases hv with ⟨_, h⟩ | ⟨b, e, h, _⟩
    · have := hT.pos; rw [h] at this; simp at this
    · exact ⟨b, e, h⟩
  subst hv0
  have hpe : ansPos src = 0 := by
    rcases ansErr_ts src with h | h
    · exact h.2.2
    · exact absurd h0 h.1
  rw [h0, hpe]
  unfold toksV
  have hb1 := (box4_blk w).frame k1 (fun h => h)
  have F1 := f1.trans k1 (fun _ _ h => h)
  have P1 := SM.start htk hT (.cells #[.slice (some ⟨tb, 0, none⟩) (ansTs src).length (ansTs src).length, .int .i64 0, .int .i64 0] 159)
  have F2 := (F1.alloc (.cells #[.slice (some ⟨tb, 0, none⟩) (ansTs src).length (ansTs src).length, .int .i64 0, .int .i64 0] 159)).alloc (.cells #[.slice (some ⟨tb, 0, none⟩) (ansTs src).length (ansTs src).length, .int .i64 0, .slice none 0 0, .int .i64 0, .int .i64 0] 163)
  have hb2 := (hb1.alloc (.cells #[.slice (some ⟨tb, 0, none⟩) (ansTs src).length (ansTs src).length, .int .i64 0, .int .i64 0] 159)).alloc (.cells #[.slice (some ⟨tb, 0, none⟩) (ansTs src).length (ansTs src).length, .int .i64 0, .slice none 0 0, .int .i64 0, .int .i64 0] 163)
  have hs1 := hb1.lt
  have HP1 : Hid _ := P1
  have HB2 : Hid (Blk _ w.heap.size 4 _) := hb2
  have HF2 : Hid _ := F2
  clear P1 F2 hb2 hb1 k1 hv hvb f1 c0 hml hm htk hpe F1
  generalize hTT : ansTs src = T at *
  have HTT : Hid _ := hTT
  clear hTT
  go_wp2_with fail
  refine (progM HP1.out).mono ?_
  rintro e w3 ⟨x, nv3, rfl, S3, G3⟩
  have hs3 : w1.heap.size + 1 ≠ w.heap.size := by omega
  have hb3 := HB2.out.frame G3.fr (fun h => h.elim (fun h => by omega) (fun h => isBlk_nil h))
  have F3 := HF2.out.trans G3.fr (fun c hc h => h.elim (fun h => by omega) (fun h => isBlk_nil h))
  have Hst : Hid (w.heap.size < w1.heap.size) := hs1
  rcases S3 with ⟨j, ms, P3, hk0, C3⟩ | ⟨er, qq, j, ms, her, P3, hE⟩
  · have HE : Hid _ := C3 _ (.fin _ _ _)
    clear C3 hk0
    obtain ⟨r0, r1, r2, r3, r4⟩ := P3.regs
    obtain ⟨b1, b2⟩ := P3.blt
    have harr := P3.arr
    by_cases hl : ms.length = 0
    · have hms : ms = [] := List.length_eq_zero_iff.1 hl
      obtain ⟨na, nc, hnv⟩ := harr.sl
      subst hms
      subst hnv
      simp only [List.length_nil] at r2
      clear harr hl P3
      have d0 := hb3.cell (o := 0) (by omega)
      have d1 := hb3.cell (o := 1) (by omega)
      have d2 := hb3.cell (o := 2) (by omega)
      have d3 := hb3.cell (o := 3) (by omega)
      have dz := hb3.frozen
      have hd1 := hb3.lt
      simp only at d0 d1 d2 d3
      have HB3 : Hid (Blk w3 w.heap.size 4 _) := hb3
      clear hb3
      go_wp2_with fail
      have Z1 := ((((HB3.out.set 0 (.slice none 0 0)).set 1 (.int .i64 (x))).set 2 (.int .i64 (0))).set 3 (.int .i64 (0)))
      have q0 := Z1.cell (o := 0) (by omega)
      have q1 := Z1.cell (o := 1) (by omega)
      have q2 := Z1.cell (o := 2) (by omega)
      have q3 := Z1.cell (o := 3) (by omega)
      simp only [upd] at q0 q1 q2 q3
      refine bodyPost_ret (v := treeV (.slice none 0 0) (x) (0) (0)) (by simp [results, Tryz.results49, go_sem, treeV, q0, q1, q2, q3]) rfl ?_
      exact ⟨_, [], _, _, _, rfl, ((((F3).setNew (b := w.heap.size) (o := 0) (u := .slice none 0 0) (Nat.le_refl _)).setNew (b := w.heap.size) (o := 1) (u := .int .i64 (x)) (Nat.le_refl _)).setNew (b := w.heap.size) (o := 2) (u := .int .i64 (0)) (Nat.le_refl _)).setNew (b := w.heap.size) (o := 3) (u := .int .i64 (0)) (Nat.le_refl _), .inl ⟨rfl, rfl⟩, fun b hb => (isBlk_nil hb).elim, .inr ⟨h0, .inr ⟨j, by rw [HTT.out]; exact HE.out, rfl, rfl⟩⟩⟩
    · have hlp : 0 < ms.length := by omega
      rcases harr with ⟨_, h⟩ | ⟨nb, cap, ff, hnv, hcap, hbk, hff⟩
      · rw [h] at hl; simp at hl
      subst hnv
      have hle := P3.le
      have hnbs : nb ≠ w1.heap.size + 1 := fun e => P3.apt.2.1 (e ▸ ⟨_, _, rfl⟩)
      have hzl : ((ms.length : Int) == 0) = false := by simpa using hl
      have Hbk : Hid (Blk w3 nb (cap * 8) ff) := hbk
      have Hff : Hid (∀ o, o < ms.length * 8 → ff o = bufN ms o) := hff
      have HB3 : Hid (Blk w3 w.heap.size 4 _) := hb3
      have hbP := P3.blk
      have HbP : Hid (Blk w3 (w1.heap.size + 1) 5 _) := hbP
      have hw3 := F3.size
      have hb3l := hb3.lt
      have hsbl := hbP.lt
      clear P3 hl hff hbk hb3 hbP
      go_wp2_with (first
        | (refine wpList_makeB (by rfl) 64 _ _ (by rfl) 145 8 72 zNode ms.length (by rfl) (by rfl) Tryz.underlying64 (by kernel_rfl) (by kernel_rfl) (by kernel_rfl) (by omega) (by omega) ?_
           intro w5 f5 s5 hb5
           have hbk5 := Hbk.out.frame f5 (fun h => h)
           have hp5 := HbP.out.frame f5 (fun h => h)
           have u2 := hp5.cell (o := 2) (by omega)
           simp only [sCell] at u2
           have up5 := hp5.lt)
        | (refine wpList_copyA (by rfl) _ _ 64 64 (by rfl) 145 8 w3.heap.size 0 ms.length ms.length nb 0 ms.length cap (ms.length * 8) (cap * 8) ms.length _ ff (by rfl) (by rfl) Tryz.underlying64 (by kernel_rfl) (by show _ = min _ _; omega) hb5 hbk5 (by omega) (by omega) (fun j hj => by rw [Hff.out _ (by omega)]; exact bufN_one _ _) ?_
           intro w6 f6 hb6
           have hr6 := (HB3.out.frame f5 (fun h => h)).frame f6 (by omega)
           have d0 := hr6.cell (o := 0) (by omega)
           have d1 := hr6.cell (o := 1) (by omega)
           have d2 := hr6.cell (o := 2) (by omega)
           have d3 := hr6.cell (o := 3) (by omega)
           have dz := hr6.frozen
           have hd1 := hr6.lt
           simp only at d0 d1 d2 d3))
      have Z1 := ((((hr6.set 0 (.slice (some ⟨w3.heap.size, 0, none⟩) ms.length ms.length)).set 1 (.int .i64 (x))).set 2 (.int .i64 (0))).set 3 (.int .i64 (0)))
      have q0 := Z1.cell (o := 0) (by omega)
      have q1 := Z1.cell (o := 1) (by omega)
      have q2 := Z1.cell (o := 2) (by omega)
      have q3 := Z1.cell (o := 3) (by omega)
      simp only [upd] at q0 q1 q2 q3
      refine bodyPost_ret (v := treeV (.slice (some ⟨w3.heap.size, 0, none⟩) ms.length ms.length) (x) (0) (0)) (by simp [results, Tryz.results49, go_sem, treeV, q0, q1, q2, q3]) rfl ?_
      have F6 := (F3.trans f5 (fun _ _ h => h)).trans f6 (fun c hc h => by omega)
      have K := ((((Fr.refl (fun c => c = w.heap.size) w6).setC w.heap.size 0 (.slice (some ⟨w3.heap.size, 0, none⟩) ms.length ms.length) (fun _ => rfl)).setC w.heap.size 1 (.int .i64 x) (fun _ => rfl)).setC w.heap.size 2 (.int .i64 0) (fun _ => rfl)).setC w.heap.size 3 (.int .i64 0) (fun _ => rfl)
      refine ⟨_, ms, _, _, _, rfl, F6.trans K (fun c hc h => by omega), .inr ⟨w3.heap.size, _, rfl, hb6.frame K (by omega), ?_, hlp⟩, fun b hb => by have := isBlk_one hb; omega, .inr ⟨h0, .inr ⟨j, by rw [HTT.out]; exact HE.out, rfl, rfl⟩⟩⟩
      refine bufN_of fun o ho => ?_
      rw [lay_in _ _ _ _ (Nat.zero_le _) (by rw [rowOf_length]; omega)]
      simp only [rowOf, Nat.zero_add, Nat.sub_zero, List.getElem_map, List.getElem_range]
      exact Hff.out o ho
  · have HE : Hid _ := hE
    clear hE
    obtain ⟨r0, r1, r2, r3, r4⟩ := P3.regs
    obtain ⟨b1, b2⟩ := P3.blt
    have hzz : (er != 0) = true := by simpa using her
    have d0 := hb3.cell (o := 0) (by omega)
    have d1 := hb3.cell (o := 1) (by omega)
    have d2 := hb3.cell (o := 2) (by omega)
    have d3 := hb3.cell (o := 3) (by omega)
    have dz := hb3.frozen
    have hd1 := hb3.lt
    simp only at d0 d1 d2 d3
    have HB3 : Hid (Blk w3 w.heap.size 4 _) := hb3
    clear hb3
    go_wp2_with fail
    refine wp_region_text (by kernel_rfl) (by kernel_rfl) ?_
    go_wp2_with fail
    refine ⟨by kernel_rfl, ?_⟩
    go_wp2_with fail
    have Z1 := ((((HB3.out.set 0 (.slice none 0 0)).set 1 (.int .i64 (-1))).set 2 (.int .i64 (er))).set 3 (.int .i64 (qq))).drew
    have q0 := Z1.cell (o := 0) (by omega)
    have q1 := Z1.cell (o := 1) (by omega)
    have q2 := Z1.cell (o := 2) (by omega)
    have q3 := Z1.cell (o := 3) (by omega)
    simp only [upd] at q0 q1 q2 q3
    refine bodyPost_ret (v := treeV (.slice none 0 0) (-1) (er) (qq)) (by simp [results, Tryz.results49, go_sem, treeV, q0, q1, q2, q3]) rfl ?_
    exact ⟨_, [], _, _, _, rfl, (((((F3).setNew (b := w.heap.size) (o := 0) (u := .slice none 0 0) (Nat.le_refl _)).setNew (b := w.heap.size) (o := 1) (u := .int .i64 (-1)) (Nat.le_refl _)).setNew (b := w.heap.size) (o := 2) (u := .int .i64 (er)) (Nat.le_refl _)).setNew (b := w.heap.size) (o := 3) (u := .int .i64 (qq)) (Nat.le_refl _)).drew, .inl ⟨rfl, rfl⟩, fun b hb => (isBlk_nil hb).elim, .inr ⟨h0, .inl ⟨by rw [HTT.out]; exact HE.out, her, rfl, rfl⟩⟩⟩
theorem parseMM {w : World} {m : Nat} (H : MIx w m) (src : ByteArray) : Calls Tryz.prog 49 #[.pointer (some ⟨m, 0, none⟩), .string src] w (PaM w src) := by
  by_cases h0 : ansErr src = 0
  · exact parseM_ok H src h0
  · exact parseM_err H src h0
end Go.Proofs.Qxb6500277aGreat
