import Derived.Test.Qxb6500279aW21
namespace Go.Proofs.Qxb6500279a
open Go Go.RowKit

def LexPostL (w : World) (lo base x d : Nat) (mp : Value) (D : DD) : Ending → World → Prop := fun e w' =>
  e = .returned (.bool true) ∧ (∃ D' bb' r' ts' ml', LawInv w' lo base x d mp D' bb' r' ts' ml' ∧ D'.text = D.text) ∧ Fr (fun b => lo ≤ b) w w'

theorem keep_lv {w : World} {x d : Nat} {mp : Value} {D : DD} {ml : List (Nat × Nat)} {v : Value} {n : Nat} (hd : Blk w d 10 (dcell x mp D)) (hm : MineAt w D.mv ml) (hl : ml.length ≤ 16) (hv : LV w v (stamps n)) (hdm : ¬ isBlk D.mv d) :
    Calls Try.prog 33 #[.pointer (some ⟨d, 0, none⟩), v] w fun e w' =>
      e = .returned (.tuple #[]) ∧ ∃ mv' ml', Blk w' d 10 (dcell x mp { D with mv := mv' }) ∧ MineAt w' mv' ml' ∧ ml'.length ≤ 16 ∧ (∀ q ∈ ml', q ∈ ml ∨ (v = mineV q ∧ q.2 = n ∧ 0 < n)) ∧
        Fr (fun c => c = d ∨ isBlk D.mv c) w w' ∧ ∀ c, isBlk mv' c → isBlk D.mv c ∨ w.heap.size ≤ c := by
  have hz : (stamps n).length = n := by simp [stamps]
  rcases hv with ⟨rfl, _⟩ | ⟨b, rfl, _, hp⟩
  · refine keep_nil.mono ?_
    rintro e w' ⟨rfl, rfl⟩
    exact ⟨rfl, D.mv, ml, hd, hm, hl, fun q hq => .inl hq, Fr.refl _ _, fun c hc => .inl hc⟩
  · rw [hz] at hp ⊢
    refine (keep_any (p := (b, n)) hd hm hl hp hdm).mono ?_
    rintro e w' ⟨rfl, mv', ml', h1, h2, h3, h4, h5, h6⟩
    refine ⟨rfl, mv', ml', h1, h2, h3, fun q hq => ?_, h5, h6⟩
    rcases h4 q hq with h | h
    · exact .inl h
    · subst h; exact .inr ⟨rfl, rfl, hp⟩

set_option maxRecDepth 100000 in
set_option maxHeartbeats 8000000 in
theorem sameLex_any {w : World} {lo base x d : Nat} {mp : Value} {D : DD} {bb : Nat} {r : R} {ts : List Tok} {ml : List (Nat × Nat)} (h : LawInv w lo base x d mp D bb r ts ml) (src : ByteArray) :
    Calls Try.prog 22 #[.pointer (some ⟨d, 0, none⟩), .string src] w (LexPostL w lo base x d mp D) := by
  obtain ⟨mq, rfl⟩ := h.mpv
  obtain ⟨a1, hbx⟩ := h.lx.sl
  obtain ⟨a2, hbm⟩ := h.lm.sl
  have Hbx : Hid _ := hbx
  have Hbm : Hid _ := hbm
  have hdl := h.desk.lt
  have c0 : w.cell? ⟨d, 0, none⟩ = some (.pointer (some ⟨x, 0, none⟩)) := h.desk.cell (by omega)
  have htl := h.tl
  clear hbx hbm
  go_enter Try.func22, Try.ntmps22
  go_wp2_with fail
  refine (real_any h.lex h.chk src).mono ?_
  rintro e w1 ⟨bb', r', v1, rfl, hl1, hc1, f1, hbb, lv1, bv1⟩
  unfold toksV
  obtain ⟨n1, rfl⟩ := lv1.sl
  have hd1 : Blk w1 d 10 (dcell x (.pointer mq) D) := h.desk.frame f1 (by have := h.lay; unfold lS; omega)
  have c1 : w1.cell? ⟨d, 1, none⟩ = some (.pointer mq) := hd1.cell (by omega)
  have hdl1 := hd1.lt
  have Hbb : Hid _ := hbb
  clear hbb
  obtain ⟨E, hE⟩ : ∃ E, E = ansErr src := ⟨_, rfl⟩
  obtain ⟨A, hA⟩ : ∃ A, A = ansPos src := ⟨_, rfl⟩
  obtain ⟨L, hL⟩ : ∃ L, L = ansTs src := ⟨_, rfl⟩
  have HE : Hid _ := hE
  have HA : Hid _ := hA
  have HL : Hid _ := hL
  have hLl : L.length ≤ 8192 := by rw [hL]; exact ansTs_len src
  rw [← hE, ← hA, ← hL]
  rw [← hL] at lv1
  clear hE hA hL
  go_wp2_with fail
  refine (model_any (.pointer mq) src).mono ?_
  rintro e w2 ⟨v2, rfl, f2, lv2, bv2⟩
  unfold toksV
  rw [← HE.out, ← HA.out]
  rw [← HL.out] at lv2
  obtain ⟨n2, rfl⟩ := lv2.sl
  have q0 : w2.cell? ⟨w1.heap.size, 0, none⟩ = some (.slice n1 L.length L.length) := f2.newCell (by simp) 0
  have q1 : w2.cell? ⟨w1.heap.size, 1, none⟩ = some (.int .i64 E) := f2.newCell (by simp) 1
  have q2 : w2.cell? ⟨w1.heap.size, 2, none⟩ = some (.int .i64 A) := f2.newCell (by simp) 2
  have hw12 : w1.heap.size < w2.heap.size := by have := f2.size; simp at this; omega
  go_wp2_with fail
  have lv1' : LV ((w2.alloc (.cells #[.slice n2 L.length L.length, .int .i64 E, .int .i64 A] 32)).alloc (.cells #[.slice n1 L.length L.length, .int .i64 E, .int .i64 A, .slice n2 L.length L.length, .int .i64 E, .int .i64 A] 45)) (.slice n1 L.length L.length) L :=
    lv1.frame ((((Fr.refl (fun _ => False) w1).alloc _).trans f2 (fun _ _ h => h)).alloc _ |>.alloc _) (fun _ _ h => h)
  have lv2' : LV ((w2.alloc (.cells #[.slice n2 L.length L.length, .int .i64 E, .int .i64 A] 32)).alloc (.cells #[.slice n1 L.length L.length, .int .i64 E, .int .i64 A, .slice n2 L.length L.length, .int .i64 E, .int .i64 A] 45)) (.slice n2 L.length L.length) L :=
    lv2.frame (((Fr.refl (fun _ => False) w2).alloc _).alloc _) (fun _ _ h => h)
  refine (sameToks_any lv1' lv2' hLl E A).mono ?_
  rintro e w3 ⟨rfl, f3⟩
  have f23 : Fr (fun _ => False) w2 w3 := (((Fr.refl (fun _ => False) w2).alloc _).alloc _).trans f3 (fun _ _ h => h)
  have f13 : Fr (fun _ => False) w1 w3 := ((((Fr.refl (fun _ => False) w1).alloc _).trans f2 (fun _ _ h => h))).trans f23 (fun _ _ h => h)
  have t0 : w3.cell? ⟨w1.heap.size, 0, none⟩ = some (.slice n1 L.length L.length) := by rw [f23.cell (p := ⟨w1.heap.size, 0, none⟩) hw12 (by simp)]; exact q0
  have hw23 : w2.heap.size + 1 < w3.heap.size := by have := f3.size; simp at this; omega
  have hnw : ∀ o, w3.cell? ⟨w2.heap.size + 1, o, none⟩ = (#[.slice n1 L.length L.length, .int .i64 E, .int .i64 A, .slice n2 L.length L.length, .int .i64 E, .int .i64 A] : Array Value)[o]? := fun o => by
    have := f3.newCell (by simp) o
    simpa using this
  have lw1 : LV w3 (.slice n1 L.length L.length) L := lv1.frame f13 (fun _ _ h => h)
  have lw2 : LV w3 (.slice n2 L.length L.length) L := lv2.frame f23 (fun _ _ h => h)
  clear lv1' lv2' q0 q1 q2
  go_wp2_with fail
  refine (nilIfEmpty_any lw1).mono ?_
  rintro e w4 ⟨rfl, rfl⟩
  go_wp2_with fail
  refine (exact_any lw1).mono ?_
  rintro e w5 ⟨rfl, rfl⟩
  have hd5 := hd1.frame f13 (by simp)
  have fw5 : Fr (lS x bb) w w5 := f1.trans f13 (fun _ _ h => h.elim)
  have x3 : w5.cell? ⟨d, 3, none⟩ = some (.slice a1 ts.length ts.length) := by rw [hd5.cell (by omega)]; simp [dcell, Hbx.out]
  have x4 : w5.cell? ⟨d, 4, none⟩ = some (.int .i64 D.err) := hd5.cell (by omega)
  have x5 : w5.cell? ⟨d, 5, none⟩ = some (.int .i64 D.pos) := hd5.cell (by omega)
  have x6 : w5.cell? ⟨d, 6, none⟩ = some (.slice a2 ts.length ts.length) := by rw [hd5.cell (by omega)]; simp [dcell, Hbm.out]
  have x7 : w5.cell? ⟨d, 7, none⟩ = some (.int .i64 D.err) := hd5.cell (by omega)
  have x8 : w5.cell? ⟨d, 8, none⟩ = some (.int .i64 D.pos) := hd5.cell (by omega)
  have lx5 : LV w5 (.slice a1 ts.length ts.length) ts := by
    rw [← Hbx.out]
    exact h.lx.frame fw5 (fun b hb => by have := h.bxb b hb; have := h.lay; unfold lS; omega)
  have lm5 : LV w5 (.slice a2 ts.length ts.length) ts := by
    rw [← Hbm.out]
    exact h.lm.frame fw5 (fun b hb => by have := h.bmb b hb; have := h.lay; unfold lS; omega)
  have hm5 : MineAt w5 D.mv ml := h.mine.frame fw5 (fun b hb => by have := h.mvb b hb; have := h.lay; unfold lS; omega)
  have hs5 : ∀ p ∈ ml, Stamped w5 p := fun p hp => (h.st p hp).frame fw5 (by have := h.mlb p hp; have := h.lay; unfold lS; omega)
  go_wp2_with fail
  refine wp_region_text (by kernel_rfl) (by kernel_rfl) ?_
  go_wp2_with fail
  refine (sameToks_any (w := w5.drew) (v1 := .slice a1 ts.length ts.length) (v2 := .slice a2 ts.length ts.length) (lx5.frame ((Fr.refl (fun _ => False) w5).drew) (fun _ _ h => h)) (lm5.frame ((Fr.refl (fun _ => False) w5).drew) (fun _ _ h => h)) htl D.err D.pos).mono ?_
  rintro e w6 ⟨rfl, f6'⟩
  have f6 : Fr (fun _ => False) w5 w6 := ((Fr.refl (fun _ => False) w5).drew).trans f6' (fun _ _ h => h)
  go_wp2_with fail
  refine ⟨by kernel_rfl, ?_⟩
  go_wp2_with fail
  have hd6 := hd5.frame f6 (by simp)
  refine (untouched_any hd6 (hm5.frame f6 (fun _ _ h => h)) (fun p hp => (hs5 p hp).frame f6 (by simp)) h.ml16).mono ?_
  rintro e w7 ⟨rfl, f7⟩
  have f57 := f6.trans f7 (fun _ _ h => h)
  have hd7 := hd5.frame f57 (by simp)
  have y3 : w7.cell? ⟨d, 3, none⟩ = some (.slice a1 ts.length ts.length) := by rw [hd7.cell (by omega)]; simp [dcell, Hbx.out]
  have lx7 : LV w7 (.slice a1 ts.length ts.length) ts := lx5.frame f57 (fun _ _ h => h)
  clear x3 x4 x5 x6 x7 x8
  go_wp2_with fail
  refine (spoil_any lx7 htl).mono ?_
  rintro e w8 ⟨rfl, ls8, f8⟩
  rw [← Hbx.out] at ls8 f8
  have hdbx : ¬ isBlk D.bx d := fun hb => by have := h.bxb d hb; have := h.lay; omega
  have hd8 := hd7.frame f8 hdbx
  have y3 : w8.cell? ⟨d, 3, none⟩ = some (.slice a1 ts.length ts.length) := by rw [hd8.cell (by omega)]; simp [dcell, Hbx.out]
  have hmd : ¬ isBlk D.mv d := fun hb => by have := h.mvb d hb; have := h.lay; omega
  have hm8 : MineAt w8 D.mv ml := (hm5.frame f57 (fun _ _ h => h)).frame f8 (fun b hb e => (h.mvb b hb).2.2 e)
  go_wp2_with fail
  refine (keep_lv (v := .slice a1 ts.length ts.length) (n := ts.length) hd8 hm8 h.ml16 (by rw [← Hbx.out]; exact ls8) hmd).mono ?_
  rintro e w9 ⟨rfl, mv', ml', hd9, hm9, h16, hq9, f9, hmv9⟩
  rw [← Hbx.out] at hq9
  have z9 := hd9.frozen
  have y3 := hd9.cell (o := 3) (by omega)
  have y4 := hd9.cell (o := 4) (by omega)
  have y5 := hd9.cell (o := 5) (by omega)
  have y6 := hd9.cell (o := 6) (by omega)
  have y7 := hd9.cell (o := 7) (by omega)
  have y8 := hd9.cell (o := 8) (by omega)
  have hnb : ∀ b, isBlk D.bx b → b ≠ w2.heap.size + 1 := fun b hb e => by have := h.lx.lt hb; have := fw5.size; have := f1.size; have := f2.size; simp at this; omega
  have hnm : ∀ b, isBlk D.mv b → b ≠ w2.heap.size + 1 := fun b hb e => by have := h.mine.lt hb; have := f1.size; have := f2.size; simp at this; omega
  have hnd : d ≠ w2.heap.size + 1 := by have := f1.size; have := f2.size; simp at this; omega
  have hnow : ∀ o, w9.cell? ⟨w2.heap.size + 1, o, none⟩ = (#[.slice n1 L.length L.length, .int .i64 E, .int .i64 A, .slice n2 L.length L.length, .int .i64 E, .int .i64 A] : Array Value)[o]? := fun o => by
    rw [f9.cell (p := ⟨w2.heap.size + 1, o, none⟩) (by show w2.heap.size + 1 < w8.heap.size; have := f57.size; have := f8.size; omega) (by rintro (e | e); exact hnd e.symm; exact hnm _ e rfl),
      f8.cell (p := ⟨w2.heap.size + 1, o, none⟩) (by show w2.heap.size + 1 < w7.heap.size; have := f57.size; omega) (fun e => hnb _ e rfl), f57.cell (p := ⟨w2.heap.size + 1, o, none⟩) hw23 (by simp)]
    exact hnw o
  have k0 : w9.cell? ⟨w2.heap.size + 1, 0, none⟩ = some (.slice n1 L.length L.length) := hnow 0
  have k1 : w9.cell? ⟨w2.heap.size + 1, 1, none⟩ = some (.int .i64 E) := hnow 1
  have k2 : w9.cell? ⟨w2.heap.size + 1, 2, none⟩ = some (.int .i64 A) := hnow 2
  have k3 : w9.cell? ⟨w2.heap.size + 1, 3, none⟩ = some (.slice n2 L.length L.length) := hnow 3
  have k4 : w9.cell? ⟨w2.heap.size + 1, 4, none⟩ = some (.int .i64 E) := hnow 4
  have k5 : w9.cell? ⟨w2.heap.size + 1, 5, none⟩ = some (.int .i64 A) := hnow 5
  clear hnow hnw hnb hnm
  go_wp2_with fail
  go_ret
  have hbb1 := hl1.lt.2
  have hs1 := f1.size
  have hz1 : (w1.alloc (.cells #[.slice n1 L.length L.length, .int .i64 E, .int .i64 A] 32)).heap.size = w1.heap.size + 1 := by simp
  have nx := h.next (w3 := w7) (v1 := .slice n1 L.length L.length) (v2 := .slice n2 L.length L.length) (err := E) (pos := A) (fw5.trans f57 (fun _ _ h => h.elim)) Hbb.out ((hl1.frame f13 (by simp) (by simp)).frame f57 (by simp) (by simp)) hc1
    (lw1.frame f57 (fun _ _ h => h)) (fun b hb => by rw [HL.out] at hb; exact bv1 b hb) (lw2.frame f57 (fun _ _ h => h)) (fun b hb => by have := bv2 b hb; omega) hLl f8 ls8 hm9 h16 hq9 f9 hmv9
    (w6 := (((((w9.setCell ⟨d, 3, none⟩ (.slice n1 L.length L.length)).setCell ⟨d, 4, none⟩ (.int .i64 E)).setCell ⟨d, 5, none⟩ (.int .i64 A)).setCell ⟨d, 6, none⟩ (.slice n2 L.length L.length)).setCell ⟨d, 7, none⟩ (.int .i64 E)).setCell ⟨d, 8, none⟩ (.int .i64 A))
    (by
      iterate 6 refine Fr.setC ?_ _ _ _ (fun _ => rfl)
      exact Fr.refl _ _)
    (((((((hd9.set 3 _).set 4 _).set 5 _).set 6 _).set 7 _).set 8 _).congr (dcell_now x _ D _ _ _ _ _))
  exact ⟨rfl, ⟨_, _, _, _, _, nx.1, rfl⟩, nx.2⟩
end Go.Proofs.Qxb6500279a
