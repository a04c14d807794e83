import Derived.Test.Qxb6500277aGreatW9
import Derived.Test.Qxb6500277aGreatLexI
namespace Go.Proofs.Qxb6500277aGreat
open Go Go.RowKit

theorem Fr.allocBoth {S : Nat → Prop} {w w' : World} (h : Fr S w w') (hs : w'.heap.size = w.heap.size) (o : Obj) : Fr S (w.alloc o) (w'.alloc o) := by
  refine ⟨h.os, h.tape, h.output, by simp [hs], fun b hb hS => ?_⟩
  by_cases hlt : b < w.heap.size
  · rw [Below.heap_alloc w' o b (by omega), Below.heap_alloc w o b hlt]
    exact h.block b hlt hS
  · have e : b = w.heap.size := by simp at hb; omega
    subst e
    unfold World.alloc
    rw [Array.getElem?_push_size]
    simp only []
    rw [← hs, Array.getElem?_push_size]
theorem lS_trans {w0 a b : World} {x bb bb1 bb2 : Nat} (k : Fr (lS x bb) w0 a) (hb : bb1 = bb ∨ w0.heap.size ≤ bb1) (f : Fr (lS x bb1) a b) (hb2 : bb2 = bb1 ∨ a.heap.size ≤ bb2) :
    Fr (lS x bb) w0 b ∧ (bb2 = bb ∨ w0.heap.size ≤ bb2) := by
  have hs := k.size
  refine ⟨k.trans f (fun i hi e => ?_), ?_⟩
  · unfold lS at e ⊢
    rcases e with e | e
    · exact .inl e
    · rcases hb with rfl | hb
      · exact .inr e
      · omega
  · rcases hb2 with rfl | hb2
    · exact hb
    · exact .inr (by omega)
def eofT (n : Nat) : Tok := ⟨0, n, 0, ⟨#[]⟩⟩
def toksV (v : Value) (err pos : Int) : Value := .agg #[v, .int .i64 err, .int .i64 pos]

set_option maxRecDepth 100000 in
set_option maxHeartbeats 4000000 in
theorem lex_long {w : World} {x : Nat} (src : ByteArray) (hsz : ¬ src.size ≤ 4096) :
    Calls Tryz.prog 83 #[.pointer (some ⟨x, 0, none⟩), .string src] w fun e w' => e = .returned (toksV (.slice none 0 0) 31 4096) ∧ Fr (fun _ => False) w w' := by
  have t1 : decide ((4096 : Int) < (src.size : Int)) = true := by simp; omega
  clear hsz
  go_enter Tryz.func83, Tryz.ntmps83
  go_wp2_with fail
  refine bodyPost_ret (v := toksV (.slice none 0 0) 31 4096) (by simp [results, Tryz.results83, go_sem, toksV]) rfl ⟨rfl, ?_⟩
  exact (Fr.refl _ _).alloc _

def LexPost (w : World) (x bb : Nat) (src : ByteArray) : Ending → World → Prop := fun e w' =>
  (∃ bb', Fr (lS x bb) w w' ∧ (bb' = bb ∨ w.heap.size ≤ bb') ∧
    (((finR src 0 r0).fail ≠ 0 ∧ e = .returned (toksV (.slice none 0 0) (finR src 0 r0).fail (finR src 0 r0).start) ∧ LRep w' x bb' (finR src 0 r0)) ∨
     ((finR src 0 r0).fail = 0 ∧ LRep w' x bb' (pushR (finR src 0 r0) (eofT src.size)) ∧ ∃ b, e = .returned (toksV (.slice (some ⟨b, 0, none⟩) ((finR src 0 r0).toks.length + 1) ((finR src 0 r0).toks.length + 1)) 0 0) ∧
        TokAt w' b ((finR src 0 r0).toks ++ [eofT src.size]) ∧ w.heap.size ≤ b ∧ b ≠ bb'))) ∧ MI src (src.size + 1) (finR src 0 r0)

theorem lexpost_ok {w w5 w6 : World} {x bb bb4 b : Nat} {src : ByteArray} {G : R} {o : Obj} (hG : G = finR src 0 r0) (hf : G.fail = 0) (hx : x < w.heap.size) (hbl : bb < w.heap.size)
    (fr5 : Fr (lS x bb) (w.alloc o) w5) (hbb : bb4 = bb ∨ (w.alloc o).heap.size ≤ bb4) (h5 : LRep w5 x bb4 (pushR G (eofT src.size))) (ht : TokAt w5 b (pushR G (eofT src.size)).toks) (hb : (w.alloc o).heap.size ≤ b) (hbn : b ≠ bb4)
    (k : Fr (fun c => c = w.heap.size) w5 w6) (em : MI src (src.size + 1) G) :
    LexPost w x bb src (.returned (toksV (.slice (some ⟨b, 0, none⟩) (pushR G (eofT src.size)).toks.length (pushR G (eofT src.size)).toks.length) 0 0)) w6 := by
  have hs : (w.alloc o).heap.size = w.heap.size + 1 := by simp
  rw [hs] at hbb hb
  have hl : (pushR G (eofT src.size)).toks.length = G.toks.length + 1 := by simp [pushR]
  rw [hl]
  subst hG
  refine ⟨⟨bb4, ?_, by omega, .inr ⟨hf, h5.frame k (show ¬ (x = w.heap.size) by omega) (show ¬ (bb4 = w.heap.size) by omega), b, rfl, Blk.frame ht k (show ¬ (b = w.heap.size) by omega), by omega, hbn⟩⟩, em⟩
  exact (((Fr.refl (lS x bb) w).alloc o).trans fr5 (fun _ _ h => h)).trans k (fun c hc e => by omega)
theorem lexpost_fail {w w5 w6 : World} {x bb bb4 : Nat} {src : ByteArray} {G : R} {o : Obj} (hG : G = finR src 0 r0) (hf : G.fail ≠ 0) (hx : x < w.heap.size) (hbl : bb < w.heap.size)
    (fr5 : Fr (lS x bb) (w.alloc o) w5) (hbb : bb4 = bb ∨ (w.alloc o).heap.size ≤ bb4) (h5 : LRep w5 x bb4 G) (k : Fr (fun c => c = w.heap.size) w5 w6) (em : MI src (src.size + 1) G) :
    LexPost w x bb src (.returned (toksV (.slice none 0 0) G.fail G.start)) w6 := by
  have hs : (w.alloc o).heap.size = w.heap.size + 1 := by simp
  rw [hs] at hbb
  subst hG
  refine ⟨⟨bb4, ?_, by omega, .inl ⟨hf, rfl, h5.frame k (show ¬ (x = w.heap.size) by omega) (show ¬ (bb4 = w.heap.size) by omega)⟩⟩, em⟩
  exact (((Fr.refl (lS x bb) w).alloc o).trans fr5 (fun _ _ h => h)).trans k (fun c hc e => by omega)

set_option maxRecDepth 100000 in
set_option maxHeartbeats 4000000 in
theorem lex_any {w : World} {x bb : Nat} {r : R} (h : LRep w x bb r) (src : ByteArray) (hsz : src.size ≤ 4096) :
    Calls Tryz.prog 83 #[.pointer (some ⟨x, 0, none⟩), .string src] w (LexPost w x bb src) := by
  have hA := h
  obtain ⟨all, hA⟩ := hA
  have c1 : w.cell? ⟨x, 1, none⟩ = some (.int .i64 r.toks.length) := hA.main.cell (by omega)
  have c2 : w.cell? ⟨x, 2, none⟩ = some (.int .i64 r.state) := hA.main.cell (by omega)
  have c3 : w.cell? ⟨x, 3, none⟩ = some (.int .i64 r.start) := hA.main.cell (by omega)
  have c4 : w.cell? ⟨x, 4, none⟩ = some (.int .u8 r.first) := hA.main.cell (by omega)
  have c5 : w.cell? ⟨x, 5, none⟩ = some (.int .i64 r.val) := hA.main.cell (by omega)
  have c6 : w.cell? ⟨x, 6, none⟩ = some (.int .i64 r.fail) := hA.main.cell (by omega)
  have c7 : w.cell? ⟨x, 7, none⟩ = some (.int .i64 r.opn) := hA.main.cell (by omega)
  have z0 := hA.main.frozen
  have hxl := hA.main.lt
  have hbl := hA.buf.lt
  have key : Hid _ := (((((((hA.empty).state 0).start 0).first 0).val 0).fail 0).opn 0).alloc (.cells #[.slice none 0 0, .int .i64 0, .int .i64 0] 159)
  go_enter Tryz.func83, Tryz.ntmps83
  go_wp2_with fail
  go_loopg [5] src.size (fun g iv wr => ∃ (i bb1 : Nat) (r1 : R), iv = .int .i64 i ∧ i + g = src.size ∧ LRep wr x bb1 r1 ∧ MI src i r1 ∧ finR src 0 r0 = finR src i r1 ∧
     Fr (lS x bb) (w.alloc (.cells #[.slice none 0 0, .int .i64 0, .int .i64 0] 159)) wr ∧ (bb1 = bb ∨ w.heap.size + 1 ≤ bb1))
  case atStart =>
    refine ⟨0, bb, r0, rfl, by omega, ⟨all, key.out⟩, r0_mi src, rfl, Fr.allocBoth ?_ (by simp) _, .inl rfl⟩
    repeat' refine Fr.setC ?_ _ _ _ (fun _ => .inl rfl)
    exact Fr.refl _ _
  case round =>
    obtain ⟨i, bb1, r1, rfl, hig, hL, hm, hfin, hfr, hbb⟩ := hrel
    have hA1 := hL
    obtain ⟨all1, hA1⟩ := hA1
    have d3 : wr.cell? ⟨x, 3, none⟩ = some (.int .i64 r1.start) := hA1.main.cell (by omega)
    have z1 := hA1.main.frozen
    have hq := fun o => hfr.newCell (by unfold lS; omega) o
    have q0 : wr.cell? ⟨w.heap.size, 0, none⟩ = some (.slice none 0 0) := hq 0
    have q1 : wr.cell? ⟨w.heap.size, 1, none⟩ = some (.int .i64 0) := hq 1
    have q2 : wr.cell? ⟨w.heap.size, 2, none⟩ = some (.int .i64 0) := hq 2
    have qz := fun o => hfr.newFrozen (by unfold lS; omega) o
    have hws := hfr.size
    have hig' : i + gk = src.size := hig
    have hile : i ≤ src.size := by omega
    clear hq key c1 c2 c3 c4 c5 c6 c7 z0 hig
    by_cases hf0 : r1.fail = 0
    · have d6 : wr.cell? ⟨x, 6, none⟩ = some (.int .i64 0) := by rw [hA1.main.cell (by omega)]; simp [lcell, hf0]
      by_cases hlt : i < src.size
      · have hbt := bt_at src i hlt
        have hst := fin_step hlt hf0
        have hsm := step_mi hm hf0 (by omega)
        have hfp : FP r1 src i (bt src i) (classN (bt src i)) := ⟨by have := hm.len; omega, hsz, hile, hm.le, bt_lt _ _, hm.val, class_digit _⟩
        obtain ⟨F, hF⟩ : ∃ F, F = feedR src i (bt src i) (classN (bt src i)) r1 := ⟨_, rfl⟩
        have hstep : stepR src i r1 = if F.2 then F.1 else beginR i (bt src i) (classN (bt src i)) F.1 := by rw [hF]; rfl
        have HF : Hid _ := hF
        have hfz : Hid _ := hf0
        have Hm : Hid _ := hm
        have Hfin : Hid _ := hfin
        have Hst : Hid _ := hst
        have Hstep : Hid _ := hstep
        have Hbt : Hid _ := hbt
        clear hF hm hfin hst hstep hbt hf0 hile
        go_wp2_with fail
        rw [← Hbt.out]
        refine (class_any _ (bt_lt _ _) _).mono ?_
        rintro e w2 ⟨rfl, rfl⟩
        go_wp2_with fail
        refine (feed_any hL hfp Hm.out.st5).mono ?_
        rintro e w3 ⟨rfl, bb2, h3, f3, hb3⟩
        rw [← HF.out] at h3 ⊢
        obtain ⟨fr3, hbb3⟩ := lS_trans hfr (by simpa using hbb) f3 hb3
        have hmi := feed_mi (c := bt src i) (k := classN (bt src i)) Hm.out (hfz.out) (by omega)
        rw [← HF.out] at hmi
        clear hfr q0 q1 q2 qz hws d3 d6 z1 hA1 hfp hL
        cases hb : F.2 with
        | true =>
          have e1 : stepR src i r1 = F.1 := by rw [Hstep.out, hb, if_pos rfl]
          rw [e1] at hsm
          have Hst2 : Hid (finR src 0 r0 = finR src (i + 1) F.1) := (Hfin.out.trans Hst.out).trans (by rw [e1])
          clear e1 hmi hb
          go_wp2_with fail
          go_roundg (gk - 1)
          case measure => omega
          case rel => exact ⟨i + 1, bb2, F.1, by simp, by omega, h3, hsm, Hst2.out, fr3, by simpa using hbb3⟩
        | false =>
          have e1 : stepR src i r1 = beginR i (bt src i) (classN (bt src i)) F.1 := by rw [Hstep.out, hb]; rfl
          rw [e1] at hsm
          have Hst2 : Hid (finR src 0 r0 = finR src (i + 1) (beginR i (bt src i) (classN (bt src i)) F.1)) := (Hfin.out.trans Hst.out).trans (by rw [e1])
          have hn3 : F.1.toks.length ≤ 4096 := by have := (hmi.2 hb).1.len; omega
          clear e1 hmi hb
          go_wp2_with fail
          refine (begin_any h3 hn3 (by omega) (bt_lt _ _)).mono ?_
          rintro e w4 ⟨rfl, bb4, h4, f4, hb4⟩
          obtain ⟨fr4, hbb4⟩ := lS_trans fr3 hbb3 f4 hb4
          go_wp2_with fail
          go_roundg (gk - 1)
          case measure => omega
          case rel => exact ⟨i + 1, bb4, _, by simp, by omega, h4, hsm, Hst2.out, fr4, by simpa using hbb4⟩
      · have hie : i = src.size := by omega
        subst hie
        have hfe := fin_end (src := src) hf0
        rw [← hfin] at hfe
        obtain ⟨em1, em2⟩ := end_mi hm hf0
        rw [← hfe] at em1 em2
        have hfp : FP r1 src src.size 0 7 := ⟨by have := hm.len; omega, hsz, Nat.le_refl _, hm.le, by omega, hm.val, fun e => by cases e⟩
        have Hm : Hid _ := hm
        have Hfe : Hid _ := hfe
        clear hm hfin hfe hf0 hile hlt hig'
        go_wp2_with fail
        refine (feed_any hL hfp Hm.out.st5).mono ?_
        rintro e w3 ⟨rfl, bb2, h3, f3, hb3⟩
        rw [← Hfe.out] at h3
        obtain ⟨fr3, hbb3⟩ := lS_trans hfr (by simpa using hbb) f3 hb3
        obtain ⟨G, hG⟩ : ∃ G, G = finR src 0 r0 := ⟨_, rfl⟩
        rw [← hG] at h3 em1 em2
        clear hfr q0 q1 q2 qz hws d3 d6 z1 hA1 hfp hL
        have hA3 := h3
        obtain ⟨all3, hA3⟩ := hA3
        have d3 : w3.cell? ⟨x, 3, none⟩ = some (.int .i64 G.start) := hA3.main.cell (by omega)
        have d6 : w3.cell? ⟨x, 6, none⟩ = some (.int .i64 G.fail) := hA3.main.cell (by omega)
        have z3 := hA3.main.frozen
        have hq := fun o => fr3.newCell (by unfold lS; omega) o
        have q0 : w3.cell? ⟨w.heap.size, 0, none⟩ = some (.slice none 0 0) := hq 0
        have q1 : w3.cell? ⟨w.heap.size, 1, none⟩ = some (.int .i64 0) := hq 1
        have q2 : w3.cell? ⟨w.heap.size, 2, none⟩ = some (.int .i64 0) := hq 2
        have qz := fun o => fr3.newFrozen (by unfold lS; omega) o
        have HG : Hid _ := hG
        clear hq hG
        by_cases hf1 : G.fail = 0
        · rw [hf1] at d6
          obtain ⟨em3, em4⟩ := em2 hf1
          have hn3 : G.toks.length ≤ 4096 := by have := em3.len; omega
          have Hf1 : Hid _ := hf1
          clear em2 em3 em4 hf1
          go_wp2_with fail
          refine (push_any h3 hn3 (eofT src.size)).mono ?_
          rintro e w4 ⟨rfl, bb4, h4, f4, hb4⟩
          obtain ⟨fr4, hbb4⟩ := lS_trans fr3 hbb3 f4 hb4
          go_wp2_with fail
          refine (answer_any h4).mono ?_
          rintro e w5 ⟨rfl, f5, ht5⟩
          have fr5 : Fr (lS x bb) (w.alloc (.cells #[.slice none 0 0, .int .i64 0, .int .i64 0] 159)) w5 := fr4.trans f5 (fun _ _ h => h.elim)
          have hq := fun o => fr5.newCell (by unfold lS; omega) o
          have q0 : w5.cell? ⟨w.heap.size, 0, none⟩ = some (.slice none 0 0) := hq 0
          have q1 : w5.cell? ⟨w.heap.size, 1, none⟩ = some (.int .i64 0) := hq 1
          have q2 : w5.cell? ⟨w.heap.size, 2, none⟩ = some (.int .i64 0) := hq 2
          have qz := fun o => fr5.newFrozen (by unfold lS; omega) o
          clear hq
          go_wp2_with fail
          refine bodyPost_ret (v := toksV (.slice (some ⟨w4.heap.size, 0, none⟩) (pushR G (eofT src.size)).toks.length (pushR G (eofT src.size)).toks.length) 0 0) (by simp [results, Tryz.results83, go_sem, toksV, q0, q1, q2]) rfl ?_
          refine lexpost_ok HG.out Hf1.out hxl hbl fr5 hbb4 (h4.frame f5 (by simp) (by simp)) ht5 fr4.size (by have := h4.lt.2; omega) ?_ em1
          iterate 3 refine Fr.setC ?_ _ _ _ (fun _ => rfl)
          exact Fr.refl _ _
        · have t1 : ((G.fail : Int) == 0) = false := by simp; omega
          have t2 : ((G.fail : Int) != 0) = true := by simp; omega
          have t3 : (G.fail : Int) ≠ 0 := by omega
          have Hf1 : Hid _ := hf1
          clear em2 hf1
          go_wp2_with fail
          refine wp_region_text (by kernel_rfl) (by kernel_rfl) ?_
          go_wp2_with fail
          refine ⟨by kernel_rfl, ?_⟩
          go_wp2_with fail
          refine bodyPost_ret (v := toksV (.slice none 0 0) G.fail G.start) (by simp [results, Tryz.results83, go_sem, toksV, q0, q1, q2]) rfl ?_
          refine lexpost_fail HG.out Hf1.out hxl hbl fr3 hbb3 h3 ?_ em1
          refine Fr.drew ?_
          iterate 3 refine Fr.setC ?_ _ _ _ (fun _ => rfl)
          exact Fr.refl _ _
    · have d6 : wr.cell? ⟨x, 6, none⟩ = some (.int .i64 r1.fail) := hA1.main.cell (by omega)
      have t1 : ((r1.fail : Int) == 0) = false := by simp; omega
      have t2 : ((r1.fail : Int) != 0) = true := by simp; omega
      have t3 : (r1.fail : Int) ≠ 0 := by omega
      have hff := hfin.trans (fin_fail (i := i) hf0)
      have hmm : MI src (src.size + 1) r1 := by
        refine ⟨hm.st5, by have := hm.le; omega, hm.val, by have := hm.len; omega, fun e => ⟨(hm.len2 e).1, by have := (hm.len2 e).2.1; omega, (hm.len2 e).2.2⟩, hm.fine.mono ?_, fun _ e => absurd e hf0⟩
        split <;> omega
      have Hff : Hid _ := hff.symm
      have Hf0 : Hid _ := hf0
      have hbb2 : bb1 = bb ∨ (w.alloc (.cells #[.slice none 0 0, .int .i64 0, .int .i64 0] 159)).heap.size ≤ bb1 := by simpa using hbb
      have Hbb : Hid _ := hbb2
      clear hfin hff hf0 hm hbb2
      by_cases hlt : i < src.size
      all_goals
        go_wp2_with fail
        refine wp_region_text (by kernel_rfl) (by kernel_rfl) ?_
        go_wp2_with fail
        refine ⟨by kernel_rfl, ?_⟩
        go_wp2_with fail
        refine bodyPost_ret (v := toksV (.slice none 0 0) r1.fail r1.start) (by simp [results, Tryz.results83, go_sem, toksV, q0, q1, q2]) rfl ?_
        refine lexpost_fail Hff.out Hf0.out hxl hbl hfr Hbb.out hL ?_ hmm
        refine Fr.drew ?_
        iterate 3 refine Fr.setC ?_ _ _ _ (fun _ => rfl)
        exact Fr.refl _ _
end Go.Proofs.Qxb6500277aGreat
