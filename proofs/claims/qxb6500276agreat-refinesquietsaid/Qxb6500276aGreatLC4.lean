/- The law: Keep, SameAll. -/
import Derived.Test.Qxb6500276aGreatLC3
import Derived.Test.Qxb6500276aGreatCApp
namespace Go.Proofs.Qxb6500276aGreat
open Go Go.RowKit

theorem Blk.set10o {w : World} {c n : Nat} {f : Nat → Value} (B : Blk w c n f) (k : Nat) (a0 a1 a2 a3 a4 a5 a6 a7 a8 a9 : Value) : ∃ f', Blk ((((((((((w.setCell ⟨c, k, none⟩ a0).setCell ⟨c, k + 1, none⟩ a1).setCell ⟨c, k + 2, none⟩ a2).setCell ⟨c, k + 3, none⟩ a3).setCell ⟨c, k + 4, none⟩ a4).setCell ⟨c, k + 5, none⟩ a5).setCell ⟨c, k + 6, none⟩ a6).setCell ⟨c, k + 7, none⟩ a7).setCell ⟨c, k + 8, none⟩ a8).setCell ⟨c, k + 9, none⟩ a9) c n f' ∧ (∀ o, o < 10 → f' (k + o) = c10 a0 a1 a2 a3 a4 a5 a6 a7 a8 a9 o) ∧ ∀ j, j < k ∨ k + 10 ≤ j → f' j = f j := by
  refine ⟨_, ((((((((((B.set k a0).set (k + 1) a1).set (k + 2) a2).set (k + 3) a3).set (k + 4) a4).set (k + 5) a5).set (k + 6) a6).set (k + 7) a7).set (k + 8) a8).set (k + 9) a9), fun o ho => ?_, fun j hj => ?_⟩
  · rcases lt10 ho with rfl | rfl | rfl | rfl | rfl | rfl | rfl | rfl | rfl | rfl
    all_goals simp [upd, c10]
  · simp only [upd]
    repeat (rw [if_neg (by omega)])
theorem Fr.set10o {S : Nat → Prop} {a w : World} {c : Nat} (h : Fr S a w) (hc : S c) (k : Nat) (a0 a1 a2 a3 a4 a5 a6 a7 a8 a9 : Value) : Fr S a ((((((((((w.setCell ⟨c, k, none⟩ a0).setCell ⟨c, k + 1, none⟩ a1).setCell ⟨c, k + 2, none⟩ a2).setCell ⟨c, k + 3, none⟩ a3).setCell ⟨c, k + 4, none⟩ a4).setCell ⟨c, k + 5, none⟩ a5).setCell ⟨c, k + 6, none⟩ a6).setCell ⟨c, k + 7, none⟩ a7).setCell ⟨c, k + 8, none⟩ a8).setCell ⟨c, k + 9, none⟩ a9) :=
  ((((((((((h.setC c k a0 (fun _ => hc)).setC c (k + 1) a1 (fun _ => hc)).setC c (k + 2) a2 (fun _ => hc)).setC c (k + 3) a3 (fun _ => hc)).setC c (k + 4) a4 (fun _ => hc)).setC c (k + 5) a5 (fun _ => hc)).setC c (k + 6) a6 (fun _ => hc)).setC c (k + 7) a7 (fun _ => hc)).setC c (k + 8) a8 (fun _ => hc)).setC c (k + 9) a9 (fun _ => hc))
theorem c10_cr (x : Cr) (o : Nat) (ho : o < 10) : c10 (vV x) (.int .i64 x.2.root) (.int .i64 0) (.int .i64 0) (tV x) (rV x) (fV x) (.int .i64 x.2.main) (.int .i64 x.2.err) (.int .i64 x.2.pos) o = crC x o := by
  rcases lt10 ho with rfl | rfl | rfl | rfl | rfl | rfl | rfl | rfl | rfl | rfl <;> rfl
/-- The answers that the law keeps: the oldest goes. -/
def keepQ (l : List Cr) (x : Cr) : List Cr := (if l.length < 16 then l else l.tail) ++ [x]
theorem keepQ_len (l : List Cr) (x : Cr) (h : l.length ≤ 16) : (keepQ l x).length ≤ 16 ∧ 0 < (keepQ l x).length := by
  unfold keepQ
  split <;> simp <;> omega
theorem keepQ_mem {l : List Cr} {x y : Cr} (h : y ∈ keepQ l x) : y ∈ l ∨ y = x := by
  unfold keepQ at h
  simp only [List.mem_append, List.mem_singleton] at h
  rcases h with h | h
  · split at h
    · exact .inl h
    · exact .inl (List.mem_of_mem_tail h)
  · exact .inr h
theorem keepQ_map (l l' : List Cr) (x x' : Cr) (h : l'.map (·.2) = l.map (·.2)) (e : x'.2 = x.2) : (keepQ l' x').map (·.2) = (keepQ l x).map (·.2) := by
  have hl : l'.length = l.length := by have := congrArg List.length h; simpa using this
  unfold keepQ
  rw [hl]
  split
  · simp [h, e]
  · simp [List.map_tail, h, e]
theorem SlC.sl {w : World} {v : Value} {p : List Cr} (h : SlC w v p) : ∃ a c, v = .slice a p.length c := by
  rcases h with ⟨rfl, rfl⟩ | ⟨b, cap, f, rfl, _⟩
  · exact ⟨_, _, rfl⟩
  · exact ⟨_, _, rfl⟩
theorem SlC.bk {w : World} {v : Value} {p : List Cr} (h : SlC w v p) {b : Nat} (hb : isBlk v b) : b < w.heap.size := by
  rcases h with ⟨rfl, _⟩ | ⟨b', cap, f, rfl, _, hb', _⟩
  · exact absurd hb (nilB b)
  · have := isBlk_of hb; injection this with this; injection this with this; subst this; exact hb'.lt
theorem SlC.get {w : World} {v : Value} {p : List Cr} (h : SlC w v p) {i : Nat} (hi : i < p.length) : ∃ b cap, v = .slice (some ⟨b, 0, none⟩) p.length cap ∧ p.length ≤ cap ∧ b < w.heap.size ∧ ∀ o, o < 10 → w.cell? ⟨b, i * 10 + o, none⟩ = some (crC p[i] o) := by
  rcases h with ⟨rfl, rfl⟩ | ⟨b, cap, f, rfl, hc, hb, hf⟩
  · simp at hi
  · refine ⟨b, cap, rfl, hc, hb.lt, fun o ho => ?_⟩
    rw [hb.cell (by omega), hf _ (by omega)]
    unfold bufC
    rw [show (i * 10 + o) / 10 = i by omega, show (i * 10 + o) % 10 = o by omega]
    simp [List.getD_eq_getElem?_getD, hi]
theorem PAc.one {w : World} {b : Nat} (x : Cr) (X : Blk w b 10 (crC x)) : PAc w b [x] := fun o ho => by
  have ho : o < 10 := by simpa using ho
  rw [X.cell ho]
  rcases lt10 ho with rfl | rfl | rfl | rfl | rfl | rfl | rfl | rfl | rfl | rfl <;> rfl
def KpR (w : World) (hv : Value) (l : List Cr) (x : Cr) (e : Ending) (w' : World) : Prop := ∃ hv', e = .returned hv' ∧ SlC w' hv' (keepQ l x) ∧ Fr (isBlk hv) w w' ∧ ∀ b, isBlk hv' b → w.heap.size ≤ b ∨ isBlk hv b
/-- The list on its way to the left. -/
def shl (l : List Cr) (j i : Nat) : Cr := if i < j then l.getD (i + 1) cr0 else l.getD i cr0
set_option maxRecDepth 100000 in
set_option maxHeartbeats 8000000 in
theorem keepC {w : World} {hv : Value} {l : List Cr} (hS : SlC w hv l) (hl : l.length ≤ 16) (x : Cr) : Calls Tryz.prog 14 #[hv, crV x] w (KpR w hv l x) := by
  obtain ⟨a, c, ev⟩ := hS.sl
  have K0 := (Fr.refl (fun _ => False) w).alloc (crB x)
  have X0 := crB_blk w x
  by_cases hn : l.length < 16
  · have hni : (l.length : Int) < 16 := by omega
    have K1 := K0.alloc (crB x)
    have X1 := crB_blk (w.alloc (crB x)) x
    have S1 := hS.frame K1 (fun _ _ _ _ h => h)
    have P1 := PAc.one x X1
    have HK : Hid (∀ v' w', SlC w' v' (l ++ [x]) → (∀ b n c, v' = .slice (some ⟨b, 0, none⟩) n c → ((w.alloc (crB x)).alloc (crB x)).heap.size ≤ b ∨ ∃ n' c', hv = .slice (some ⟨b, 0, none⟩) n' c') → Fr (fun b => ∃ n c, hv = .slice (some ⟨b, 0, none⟩) n c) ((w.alloc (crB x)).alloc (crB x)) w' → KpR w hv l x (.returned v') w') := by
      refine fun v' w' h1 h2 h3 => ⟨v', rfl, by unfold keepQ; rw [if_pos hn]; exact h1, (K1.mono (S' := isBlk hv) (fun _ _ h => h.elim)).trans h3 (fun _ _ h => h), fun b hb => ?_⟩
      obtain ⟨n, c, e⟩ := hb
      rcases h2 b n c e with h | h
      · simp only [World.size_alloc] at h; exact .inl (by omega)
      · exact .inr h
    have hs1 : (w.alloc (crB x)).heap.size = w.heap.size + 1 := by simp [World.size_alloc]
    rw [hs1] at P1
    subst ev
    obtain ⟨⟨av, at', ar, af⟩, ⟨ns, root, ty, rf, rs, main, err, pos⟩⟩ := x
    clear hS K0 X0 K1 X1 hs1
    unfold crV chkV
    unfold crB at S1 P1 HK
    unfold vV tV rV fV at S1 P1 HK ⊢
    simp only at S1 P1 HK ⊢
    go_enter Tryz.func14, Tryz.ntmps14
    go_wp2_with (at_builtin; refine wpList_appendCr (by rfl) _ _ (by rfl) (.slice a l.length c) l _ (w.heap.size + 1) 1 (by rfl) (by rfl) S1 P1 (by omega) ?_; intro v' w8 hc8 hb8 f8; obtain ⟨va', vcap', rfl⟩ := hc8.sl)
    have R := HK.out _ w8 hc8 hb8 f8
    rw [one_appendC] at R
    clear hc8 hb8 f8 HK
    go_wp2_with fail
    go_ret
    exact R
  · have hn16 : l.length = 16 := by omega
    rcases hS with ⟨_, h0⟩ | ⟨b, cap, f, e1, hcap, hB, hf⟩
    · rw [h0] at hn16; simp at hn16
    have HB1 := hB.alloc (crB x)
    have HF1 := K0.mono (S' := isBlk hv) (fun _ _ h => h.elim)
    have hbl0 := hB.lt
    have HKK : Hid (∀ w' f', Blk w' b (cap * 10) f' → (∀ i, i < 16 → ∀ o, o < 10 → f' (i * 10 + o) = crC (if i = 15 then x else l.getD (i + 1) cr0) o) → Fr (isBlk hv) w w' → KpR w hv l x (.returned hv) w') := by
      refine fun w' f' h1 h2 h3 => ⟨hv, rfl, .inr ⟨b, cap, f', ?_, ?_, h1, fun o ho => ?_⟩, h3, fun b hb => .inr hb⟩
      · rw [e1, hn16]; unfold keepQ; rw [if_neg hn]; simp [hn16]
      · unfold keepQ; rw [if_neg hn]; simp [hn16] at hcap ⊢; omega
      · have hkl : (keepQ l x).length = 16 := by unfold keepQ; rw [if_neg hn]; simp [hn16]
        rw [hkl] at ho
        have h4 := h2 (o / 10) (by omega) (o % 10) (by omega)
        rw [show o / 10 * 10 + o % 10 = o by omega] at h4
        rw [h4]
        unfold bufC keepQ
        rw [if_neg hn]
        congr 1
        by_cases e : o / 10 = 15
        · rw [if_pos e, e, List.getD_eq_getElem?_getD, List.getElem?_append_right (by simp; omega)]
          simp [hn16]
        · rw [if_neg e, List.getD_eq_getElem?_getD, List.getD_eq_getElem?_getD, List.getElem?_append_left (by simp; omega), List.getElem?_tail]
    have HI0 : Hid (∀ i, i < 16 → ∀ o, o < 10 → f (i * 10 + o) = crC (shl l 0 i) o) := fun i hi o ho => by
      rw [hf _ (by omega)]
      unfold bufC shl
      rw [show (i * 10 + o) / 10 = i by omega, show (i * 10 + o) % 10 = o by omega, if_neg (by omega)]
    have e2 := ev.symm.trans e1
    injection e2 with e2 _ e3
    subst e2 e3
    rw [hn16] at ev e1
    have hmb : isBlk hv b := ⟨_, _, e1⟩
    have Hmb : Hid _ := hmb
    have Hb1 : Hid (Blk (w.alloc (crB x)) b (c * 10) f ∧ Fr (isBlk hv) w (w.alloc (crB x))) := ⟨HB1, HF1⟩
    have HX0 : Hid (Blk _ w.heap.size 10 _) := X0
    obtain ⟨bx, hbx⟩ : ∃ bx, w.heap.size = bx := ⟨_, rfl⟩
    have hne : b ≠ bx := by omega
    have hne' : bx ≠ b := by omega
    rw [hbx] at HX0 hbl0
    have Hbx : Hid _ := hbx
    have Hn16 : Hid _ := hn16
    have hcap16 : 16 ≤ c := by omega
    subst ev
    clear hf hB e1 hmb K0 X0 HB1 HF1 hn hl hcap hn16
    obtain ⟨⟨av, at', ar, af⟩, ⟨ns, root, ty, rf, rs, main, err, pos⟩⟩ := x
    unfold crV chkV
    unfold crB at Hb1 HX0
    unfold vV tV rV fV at Hb1 HX0 ⊢
    simp only at Hb1 HX0 ⊢
    go_enter Tryz.func14, Tryz.ntmps14
    go_wp2_with fail
    generalize hw1 : w.alloc _ = w1
    rw [hw1] at Hb1 HX0
    try rw [hbx]
    clear hw1 hbx
    go_loopg [5] 15 (fun g iv wr => ∃ (j : Nat) (f' : Nat → Value), iv = .int .i64 ((j + 1 : Nat) : Int) ∧ j + g = 15 ∧ Blk wr b (c * 10) f' ∧ (∀ i, i < 16 → ∀ o, o < 10 → f' (i * 10 + o) = crC (shl l j i) o) ∧ Fr (isBlk (.slice (some ⟨b, 0, none⟩) 16 c)) w1 wr)
    case atStart => exact ⟨0, f, rfl, by omega, Hb1.out.1, HI0.out, Fr.refl _ _⟩
    case round =>
      clear HI0
      obtain ⟨j, f', rfl, hg, hb, hI, hfr⟩ := hrel
      have hg' : Hid _ := hg
      have hbl := hb.lt
      have hbz := hb.frozen
      have hwl := Hb1.out.1.lt
      have XJ := HX0.out.frame hfr (fun h => hne' (by have := isBlk_of h; injection this with this; injection this with this; exact this.symm))
      by_cases hlt : j < 15
      · have hI1 : decide (((j + 1 : Nat) : Int) < 16) = true := decide_eq_true (by omega)
        have hj1 : ((j + 1 : Nat) : Int) - 1 = j := by omega
        have hj2 : ((j + 1 : Nat) : Int) ≤ 16 := by omega
        obtain ⟨y, hy⟩ : ∃ y, y = shl l j (j + 1) := ⟨_, rfl⟩
        have s0 := hb.cell (o := (j + 1) * 10) (by omega)
        rw [show f' ((j + 1) * 10) = _ from hI (j + 1) (by omega) 0 (by omega), ← hy] at s0
        have s1 := hb.cell (o := (j + 1) * 10 + 1) (by omega)
        rw [hI (j + 1) (by omega) 1 (by omega), ← hy] at s1
        have s2 := hb.cell (o := (j + 1) * 10 + 2) (by omega)
        rw [hI (j + 1) (by omega) 2 (by omega), ← hy] at s2
        have s3 := hb.cell (o := (j + 1) * 10 + 3) (by omega)
        rw [hI (j + 1) (by omega) 3 (by omega), ← hy] at s3
        have s4 := hb.cell (o := (j + 1) * 10 + 4) (by omega)
        rw [hI (j + 1) (by omega) 4 (by omega), ← hy] at s4
        have s5 := hb.cell (o := (j + 1) * 10 + 5) (by omega)
        rw [hI (j + 1) (by omega) 5 (by omega), ← hy] at s5
        have s6 := hb.cell (o := (j + 1) * 10 + 6) (by omega)
        rw [hI (j + 1) (by omega) 6 (by omega), ← hy] at s6
        have s7 := hb.cell (o := (j + 1) * 10 + 7) (by omega)
        rw [hI (j + 1) (by omega) 7 (by omega), ← hy] at s7
        have s8 := hb.cell (o := (j + 1) * 10 + 8) (by omega)
        rw [hI (j + 1) (by omega) 8 (by omega), ← hy] at s8
        have s9 := hb.cell (o := (j + 1) * 10 + 9) (by omega)
        rw [hI (j + 1) (by omega) 9 (by omega), ← hy] at s9
        simp only [crC, vV, tV, rV, fV] at s0 s1 s2 s3 s4 s5 s6 s7 s8 s9
        have d0 := hb.cell (o := j * 10) (by omega)
        have d1 := hb.cell (o := j * 10 + 1) (by omega)
        have d2 := hb.cell (o := j * 10 + 2) (by omega)
        have d3 := hb.cell (o := j * 10 + 3) (by omega)
        have d4 := hb.cell (o := j * 10 + 4) (by omega)
        have d5 := hb.cell (o := j * 10 + 5) (by omega)
        have d6 := hb.cell (o := j * 10 + 6) (by omega)
        have d7 := hb.cell (o := j * 10 + 7) (by omega)
        have d8 := hb.cell (o := j * 10 + 8) (by omega)
        have d9 := hb.cell (o := j * 10 + 9) (by omega)
        obtain ⟨f2, q1, q2, q3⟩ := hb.set10o (j * 10) (.slice y.1.v y.2.ns.length y.2.ns.length) (.int .i64 y.2.root) (.int .i64 0) (.int .i64 0) (.slice y.1.t y.2.ty.length y.2.ty.length) (.slice y.1.r y.2.rf.length y.2.rf.length) (.slice y.1.f y.2.rs.length y.2.rs.length) (.int .i64 y.2.main) (.int .i64 y.2.err) (.int .i64 y.2.pos)
        have Fx := hfr.set10o (c := b) (show isBlk (.slice (some ⟨b, 0, none⟩) 16 c) b from ⟨_, _, rfl⟩) (j * 10) (.slice y.1.v y.2.ns.length y.2.ns.length) (.int .i64 y.2.root) (.int .i64 0) (.int .i64 0) (.slice y.1.t y.2.ty.length y.2.ty.length) (.slice y.1.r y.2.rf.length y.2.rf.length) (.slice y.1.f y.2.rs.length y.2.rs.length) (.int .i64 y.2.main) (.int .i64 y.2.err) (.int .i64 y.2.pos)
        have H2 : Hid (∀ i, i < 16 → ∀ o, o < 10 → f2 (i * 10 + o) = crC (shl l (j + 1) i) o) := fun i hi o ho => by
          by_cases e : i = j
          · subst e
            refine (q2 o ho).trans ((c10_cr y o ho).trans ?_)
            rw [hy]
            unfold shl
            rw [if_neg (by omega), if_pos (by omega)]
          · rw [q3 _ (by omega), hI i hi o ho]
            unfold shl
            by_cases h : i < j
            · rw [if_pos h, if_pos (by omega)]
            · rw [if_neg h, if_neg (by omega)]
        have Hk : Hid (_ ∧ _) := ⟨q1, Fx⟩
        clear hI hb hfr q1 q2 q3 Fx hg hy XJ
        go_wp2_with fail
        go_roundg (gk - 1)
        case measure => have := hg'.out; omega
        case rel => exact ⟨j + 1, f2, by simp, by have := hg'.out; omega, Hk.out.1, H2.out, Hk.out.2⟩
      · obtain rfl : j = 15 := by omega
        have hI1 : decide (((15 + 1 : Nat) : Int) < 16) = false := by decide
        have s0 := XJ.cell (o := 0) (by omega)
        have s1 := XJ.cell (o := 1) (by omega)
        have s2 := XJ.cell (o := 2) (by omega)
        have s3 := XJ.cell (o := 3) (by omega)
        have s4 := XJ.cell (o := 4) (by omega)
        have s5 := XJ.cell (o := 5) (by omega)
        have s6 := XJ.cell (o := 6) (by omega)
        have s7 := XJ.cell (o := 7) (by omega)
        have s8 := XJ.cell (o := 8) (by omega)
        have s9 := XJ.cell (o := 9) (by omega)
        simp only [crC, vV, tV, rV, fV] at s0 s1 s2 s3 s4 s5 s6 s7 s8 s9
        have xl := XJ.lt
        have d0 := hb.cell (o := 15 * 10) (by omega)
        have d1 := hb.cell (o := 15 * 10 + 1) (by omega)
        have d2 := hb.cell (o := 15 * 10 + 2) (by omega)
        have d3 := hb.cell (o := 15 * 10 + 3) (by omega)
        have d4 := hb.cell (o := 15 * 10 + 4) (by omega)
        have d5 := hb.cell (o := 15 * 10 + 5) (by omega)
        have d6 := hb.cell (o := 15 * 10 + 6) (by omega)
        have d7 := hb.cell (o := 15 * 10 + 7) (by omega)
        have d8 := hb.cell (o := 15 * 10 + 8) (by omega)
        have d9 := hb.cell (o := 15 * 10 + 9) (by omega)
        obtain ⟨f2, q1, q2, q3⟩ := hb.set10o (15 * 10) (.slice av ns.length ns.length) (.int .i64 root) (.int .i64 0) (.int .i64 0) (.slice at' ty.length ty.length) (.slice ar rf.length rf.length) (.slice af rs.length rs.length) (.int .i64 main) (.int .i64 err) (.int .i64 pos)
        have Fx := hfr.set10o (c := b) (show isBlk (.slice (some ⟨b, 0, none⟩) 16 c) b from ⟨_, _, rfl⟩) (15 * 10) (.slice av ns.length ns.length) (.int .i64 root) (.int .i64 0) (.int .i64 0) (.slice at' ty.length ty.length) (.slice ar rf.length rf.length) (.slice af rs.length rs.length) (.int .i64 main) (.int .i64 err) (.int .i64 pos)
        have R := HKK.out _ f2 q1 (fun i hi o ho => by
          by_cases e : i = 15
          · subst e; rw [if_pos rfl, q2 o ho]; exact c10_cr (⟨av, at', ar, af⟩, ⟨ns, root, ty, rf, rs, main, err, pos⟩) o ho
          · rw [if_neg e, q3 _ (by omega), hI i hi o ho]; unfold shl; rw [if_pos (by omega)]) (Hb1.out.2.trans Fx (fun _ _ h => h))
        have Hk : Hid _ := R
        clear hI hb hfr q1 q2 q3 Fx hg R HKK XJ
        go_wp2_with fail
        go_ret
        exact Hk.out
set_option maxRecDepth 100000 in
set_option maxHeartbeats 4000000 in
theorem sameAll {w : World} {hv hu : Value} {l1 l2 : List Cr} (h1 : SlC w hv l1) (h2 : SlC w hu l2) (hl : l1.length ≤ 16) (he : l2.map (·.2) = l1.map (·.2)) (a1 : ∀ x ∈ l1, AnsA w x) (a2 : ∀ x ∈ l2, AnsA w x) : Calls Tryz.prog 15 #[hv, hu] w fun e w' => e = .returned (.bool true) ∧ Fr (fun _ => False) w w' := by
  have hlen : l2.length = l1.length := by have := congrArg List.length he; simpa using this
  obtain ⟨b1, c1, e1⟩ := h1.sl
  obtain ⟨b2, c2, e2⟩ := h2.sl
  rw [hlen] at e2
  have H1 : Hid _ := And.intro h1 (And.intro h2 (And.intro a1 (And.intro a2 he)))
  clear h1 h2 a1 a2 he
  have Hlen : Hid _ := hlen
  clear hlen
  go_enter Tryz.func15, Tryz.ntmps15
  rw [e1, e2]
  go_wp2_with fail
  go_loopg [5] l1.length (fun gk kv wr => ∃ k : Nat, kv = .int .i64 ((k : Int) - 1) ∧ k = gk ∧ k ≤ l1.length ∧ Fr (fun _ => False) w wr)
  case atStart => exact ⟨l1.length, rfl, rfl, Nat.le_refl _, Fr.refl _ _⟩
  case round =>
    obtain ⟨k, rfl, hkg, hkl, FJ⟩ := hrel
    have Hkg : Hid _ := hkg
    have HFJ : Hid _ := FJ
    cases k with
    | zero =>
      have z1 : decide ((((0 : Nat) : Int) - 1) ≥ 0) = false := by decide
      go_wp2_with fail
      go_ret
      exact ⟨rfl, HFJ.out⟩
    | succ j =>
      have e0 : (((j + 1 : Nat) : Int) - 1) = (j : Int) := by omega
      rw [e0]
      have z1 : decide ((j : Int) ≥ 0) = true := decide_eq_true (by omega)
      obtain ⟨h1, h2, a1, a2, he⟩ := H1.out
      have hlen := Hlen.out
      obtain ⟨b, cap, e3, _, hb, hc⟩ := (h1.frame FJ (fun _ _ _ _ h => h)).get (i := j) (by omega)
      obtain ⟨b', cap', e4, _, hb', hc'⟩ := (h2.frame FJ (fun _ _ _ _ h => h)).get (i := j) (by omega)
      rw [hlen] at e4
      have e5 := e1.symm.trans e3
      have e6 := e2.symm.trans e4
      cases e5
      cases e6
      have hx : (l2[j]'(by omega)).2 = (l1[j]'(by omega)).2 := by
        have := congrArg (fun z => z[j]?) he
        simp only [List.getElem?_map, List.getElem?_eq_getElem (show j < l1.length by omega), List.getElem?_eq_getElem (show j < l2.length by omega), Option.map_some] at this
        injection this
      have HS := fun (w' : World) (k : Fr (fun _ => False) w w') => sameChecked ((a1 _ (List.getElem_mem (show j < l1.length by omega))).frame k (fun _ _ h => h)) ((a2 _ (List.getElem_mem (show j < l2.length by omega))).frame k (fun _ _ h => h)) hx
      have HSS : Hid _ := HS
      have s0 := hc 0 (by omega)
      have s1 := hc 1 (by omega)
      have s2 := hc 2 (by omega)
      have s3 := hc 3 (by omega)
      have s4 := hc 4 (by omega)
      have s5 := hc 5 (by omega)
      have s6 := hc 6 (by omega)
      have s7 := hc 7 (by omega)
      have s8 := hc 8 (by omega)
      have s9 := hc 9 (by omega)
      simp only [crC, vV, tV, rV, fV, Nat.add_zero] at s0 s1 s2 s3 s4 s5 s6 s7 s8 s9
      have t0 := hc' 0 (by omega)
      have t1 := hc' 1 (by omega)
      have t2 := hc' 2 (by omega)
      have t3 := hc' 3 (by omega)
      have t4 := hc' 4 (by omega)
      have t5 := hc' 5 (by omega)
      have t6 := hc' 6 (by omega)
      have t7 := hc' 7 (by omega)
      have t8 := hc' 8 (by omega)
      have t9 := hc' 9 (by omega)
      simp only [crC, vV, tV, rV, fV, Nat.add_zero] at t0 t1 t2 t3 t4 t5 t6 t7 t8 t9
      generalize l1[j] = x at *
      generalize l2[j] = y at *
      have hj2 : j < 16 := by omega
      have hj3 : (j : Int) < l1.length := by omega
      clear h1 h2 a1 a2 he hlen hc hc' e3 e4 hx HS e0 hkg
      have FJd := FJ.drew
      clear FJ
      go_wp2_with fail
      refine wp_region_text (by kernel_rfl) (by kernel_rfl) ?_
      go_wp2_with fail
      refine (HSS.out _ FJd).mono ?_
      rintro v w2 ⟨rfl, f2⟩
      go_wp2_with fail
      refine ⟨by kernel_rfl, ?_⟩
      go_wp2_with fail
      go_roundg j
      case measure => have := Hkg.out; omega
      case rel => exact ⟨j, rfl, rfl, by omega, FJd.trans f2 (fun _ _ h => h)⟩
end Go.Proofs.Qxb6500276aGreat
