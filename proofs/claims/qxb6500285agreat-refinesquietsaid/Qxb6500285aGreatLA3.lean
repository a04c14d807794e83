/- The law: Again. -/
import Derived.Test.Qxb6500285aGreatLA2
namespace Go.Proofs.Qxb6500285aGreat
open Go Go.RowKit

def keepD (D : Dk) : Dk := { D with lx := .slice none 0 0, lm := .slice none 0 0, old := upd D.old (D.n % 4) D.lx, n := D.n + 1 }
def dropD (D : Dk) : Dk := { D with lx := .slice none 0 0, lm := .slice none 0 0 }
theorem lt23 {o : Nat} (h : o < 23) : o = 0 ∨ o = 1 ∨ o = 2 ∨ o = 3 ∨ o = 4 ∨ o = 5 ∨ o = 6 ∨ o = 7 ∨ o = 8 ∨ o = 9 ∨ o = 10 ∨ o = 11 ∨ o = 12 ∨ o = 13 ∨ o = 14 ∨ o = 15 ∨ o = 16 ∨ o = 17 ∨ o = 18 ∨ o = 19 ∨ o = 20 ∨ o = 21 ∨ o = 22 := by omega
theorem dkCell_keep (D : Dk) : ∀ o, o < 23 → upd (upd (upd (upd (dkCell D) (18 + D.n % 4) D.lx) 22 (.int .i64 ((D.n + 1 : Nat) : Int))) 16 (.slice none 0 0)) 17 (.slice none 0 0) o = dkCell (keepD D) o := by
  intro o ho
  have : D.n % 4 < 4 := by omega
  simp only [keepD, upd]
  rcases lt23 ho with rfl | rfl | rfl | rfl | rfl | rfl | rfl | rfl | rfl | rfl | rfl | rfl | rfl | rfl | rfl | rfl | rfl | rfl | rfl | rfl | rfl | rfl | rfl <;>
  rcases (show D.n % 4 = 0 ∨ D.n % 4 = 1 ∨ D.n % 4 = 2 ∨ D.n % 4 = 3 by omega) with h | h | h | h <;> rw [h] <;> simp [dkCell, upd]
theorem dkCell_drop (D : Dk) : ∀ o, o < 23 → upd (upd (dkCell D) 16 (.slice none 0 0)) 17 (.slice none 0 0) o = dkCell (dropD D) o := by
  intro o ho
  rcases lt23 ho with rfl | rfl | rfl | rfl | rfl | rfl | rfl | rfl | rfl | rfl | rfl | rfl | rfl | rfl | rfl | rfl | rfl | rfl | rfl | rfl | rfl | rfl | rfl <;> simp [dkCell, upd, dropD]
def Old4 (w : World) (D : Dk) : Prop := ∀ k, k < 4 → ∃ n, n ≤ 64 ∧ LVi w (D.old k) (stamps n)
theorem Old4.frame {S : Nat → Prop} {w w' : World} {D : Dk} (h : Old4 w D) (k : Fr S w w') (hb : ∀ i, i < 4 → ∀ b, isBlk (D.old i) b → ¬ S b) : Old4 w' D := fun i hi => by
  obtain ⟨n, hn, hv⟩ := h i hi
  exact ⟨n, hn, hv.frame k (hb i hi)⟩
def AgPost (w : World) (d : Nat) (D : Dk) (e : Ending) (w' : World) : Prop :=
  e = .returned (.bool true) ∧ Fr (fun b => b = d ∨ isBlk D.lx b) w w' ∧ ∃ D', (D' = keepD D ∨ D' = dropD D) ∧ Blk w' d 23 (dkCell D') ∧ Old4 w' D'
def upd7 (f : Nat → Value) (b : Nat) : Nat → Value := (upd (upd (upd (upd (upd (upd (upd f (b) (.int .i64 (-7))) (b + 1) (.int .i64 (-7))) (b + 2) (.int .i64 (-7))) (b + 3) (.int .u64 0)) (b + 4) (.int .u64 0)) (b + 5) (.int .u64 0)) (b + 6) (.int .u64 0))
theorem upd7_in (f : Nat → Value) (b j : Nat) (h : j < 7) : upd7 f b (b + j) = inCell stampIn j := by
  rcases lt7 h with rfl | rfl | rfl | rfl | rfl | rfl | rfl <;> simp [upd7, upd, inCell, stampIn]
theorem upd7_out (f : Nat → Value) (b o : Nat) (h : o < b ∨ b + 7 ≤ o) : upd7 f b o = f o := by
  unfold upd7
  simp only [upd]
  rw [if_neg (by omega), if_neg (by omega), if_neg (by omega), if_neg (by omega), if_neg (by omega), if_neg (by omega), if_neg (by omega)]
theorem stamped {f : Nat → Value} {i : Nat} (h : ∀ k, k < i → ∀ j, j < 7 → f (k * 7 + j) = inCell stampIn j) : ∀ k, k < i + 1 → ∀ j, j < 7 → upd7 f (i * 7) (k * 7 + j) = inCell stampIn j := by
  intro k hk j hj
  by_cases he : k = i
  · subst he; exact upd7_in _ _ j hj
  · rw [upd7_out _ _ _ (by omega)]; exact h k (by omega) j hj
set_option maxRecDepth 100000 in
set_option maxHeartbeats 8000000 in
theorem again_any {w : World} {d : Nat} {D : Dk} {ns : List In} (hd : Blk w d 23 (dkCell D)) (h1 : LVi w D.lx ns) (h2 : LVi w D.lm ns) (hl : ns.length ≤ 64) (ho : Old4 w D)
    (hx : ∀ b, isBlk D.lx b → b ≠ d ∧ ∀ k, k < 4 → ¬ isBlk (D.old k) b) (hod : ∀ k, k < 4 → ¬ isBlk (D.old k) d) (hN : D.n ≤ 10000000000000) :
    Calls Tryz.prog 37 #[.pointer (some ⟨d, 0, none⟩)] w (AgPost w d D) := by
  have hdl := hd.lt
  have hNb : (D.n : Int) ≤ 10000000000000 := by omega
  have c2 := hd.cell (o := 16) (by omega)
  have c3 := hd.cell (o := 17) (by omega)
  simp only [dkCell] at c2 c3
  have F0 := (Fr.refl (fun _ => False) w).drew
  go_enter Tryz.func37, Tryz.ntmps37
  go_wp2_with fail
  refine wp_region_text (by kernel_rfl) (by kernel_rfl) ?_
  go_wp2_with fail
  refine (sameProg_any (h1.frame F0 (fun _ _ h => h)) (h2.frame F0 (fun _ _ h => h)) hl).mono ?_
  rintro e w1 ⟨rfl, f1⟩
  have F1 := F0.trans f1 (fun _ _ h => h)
  have hd1 := hd.frame F1 (fun h => h)
  clear c2 c3
  have c2 := hd1.cell (o := 16) (by omega)
  simp only [dkCell] at c2
  have hdl1 := hd1.lt
  rcases h1 with ⟨hnil, hns⟩ | ⟨b, f, hsl, hbk, hf, hp⟩
  · rw [hnil] at c2
    go_wp2_with fail
    refine ⟨by kernel_rfl, ?_⟩
    go_wp2_with fail
    refine wp_region_text (by kernel_rfl) (by kernel_rfl) ?_
    go_wp2_with fail
    refine ⟨by kernel_rfl, ?_⟩
    go_wp2_with fail
    refine (stamp_any _).mono ?_
    rintro e w2 ⟨rfl, f2⟩
    rw [inV_stamp]
    have F2 := ((F1.drew.trans f2 (fun _ _ h => h)).alloc (.cells #[.int .i64 (-7), .int .i64 (-7), .int .i64 (-7), .int .u64 0, .int .u64 0, .int .u64 0, .int .u64 0] 122))
    have hd2 := hd.frame F2 (fun h => h)
    have z2 := hd2.frozen
    have e2 := hd2.cell (o := 16) (by omega)
    have e3 := hd2.cell (o := 17) (by omega)
    have hd2l := hd2.lt
    have hdF := ((hd2.set 16 (.slice none 0 0)).set 17 (.slice none 0 0)).congr (dkCell_drop D)
    have FF := ((F2.mono (S' := fun b => b = d ∨ isBlk D.lx b) (fun _ _ h => h.elim)).setC d 16 (.slice none 0 0) (fun _ => .inl rfl)).setC d 17 (.slice none 0 0) (fun _ => .inl rfl)
    have hoF : Old4 _ (dropD D) := ho.frame (D := D) (((F2.mono (S' := fun b => b = d) (fun _ _ h => h.elim)).setC d 16 (.slice none 0 0) (fun _ => rfl)).setC d 17 (.slice none 0 0) (fun _ => rfl)) (fun i hi b hb e => hod i hi (e ▸ hb))
    go_wp2_with fail
    refine wp_loop_rounds 1 ?_
    rw [rounds_succ]
    go_wp2_with fail
    refine (untouched_any hdF hoF).mono ?_
    rintro e w5 ⟨rfl, f5⟩
    go_wp2_with fail
    go_ret
    exact ⟨rfl, FF.trans f5 (fun _ _ h => h.elim), dropD D, .inr rfl, hdF.frame f5 (fun h => h), hoF.frame f5 (fun _ _ _ _ h => h)⟩
  · have hbd : b ≠ d := (hx b (by rw [hsl]; exact ⟨_, _, rfl⟩)).1
    have hbo : ∀ k, k < 4 → ¬ isBlk (D.old k) b := (hx b (by rw [hsl]; exact ⟨_, _, rfl⟩)).2
    have hbl := hbk.lt
    rw [hsl] at c2
    go_wp2_with fail
    refine ⟨by kernel_rfl, ?_⟩
    go_wp2_with fail
    refine wp_region_text (by kernel_rfl) (by kernel_rfl) ?_
    go_wp2_with fail
    refine ⟨by kernel_rfl, ?_⟩
    go_wp2_with fail
    refine (stamp_any _).mono ?_
    rintro e w2 ⟨rfl, f2⟩
    rw [inV_stamp]
    have hst := Blk.st w2
    unfold stO at hst
    have F2 := ((F1.drew.trans f2 (fun _ _ h => h)).alloc (.cells #[.int .i64 (-7), .int .i64 (-7), .int .i64 (-7), .int .u64 0, .int .u64 0, .int .u64 0, .int .u64 0] 122))
    have hw2 : w.heap.size ≤ w2.heap.size := (F1.drew.trans f2 (fun _ _ h => h)).size
    clear c2
    go_wp2_with fail
    go_loopg [5] ns.length (fun g iv wr => ∃ (i : Nat) (f' : Nat → Value), iv = .int .i64 i ∧ i + g = ns.length ∧ Fr (fun c => c = b) w wr ∧ Blk wr w2.heap.size 7 (inCell stampIn) ∧ Blk wr b (ns.length * 7) f' ∧ (∀ k, k < i → ∀ j, j < 7 → f' (k * 7 + j) = inCell stampIn j))
    case atStart => exact ⟨0, f, rfl, by omega, F2.mono (fun _ _ h => h.elim), hst, hbk.frame F2 (fun h => h), fun k hk => by omega⟩
    case round =>
      obtain ⟨i, f', rfl, hg, hfr, hS, hcb, hf'⟩ := hrel
      have hg' : i + gk = ns.length := hg
      clear hg
      have Hf : Hid _ := hf'
      clear hf' hst F2
      have hdw := hd.frame hfr (fun h => hbd h.symm)
      have hdwl := hdw.lt
      by_cases hlt : i < ns.length
      · have hI : decide ((i : Int) < ns.length) = true := decide_eq_true (by omega)
        have hib : (i : Int) ≤ 63 := by omega
        have s0 := hS.cell (o := 0) (by omega)
        have s1 := hS.cell (o := 1) (by omega)
        have s2 := hS.cell (o := 2) (by omega)
        have s3 := hS.cell (o := 3) (by omega)
        have s4 := hS.cell (o := 4) (by omega)
        have s5 := hS.cell (o := 5) (by omega)
        have s6 := hS.cell (o := 6) (by omega)
        simp only [inCell, stampIn] at s0 s1 s2 s3 s4 s5 s6
        have a0 := hcb.cell (o := i * 7) (by omega)
        have a1 := hcb.cell (o := i * 7 + 1) (by omega)
        have a2 := hcb.cell (o := i * 7 + 2) (by omega)
        have a3 := hcb.cell (o := i * 7 + 3) (by omega)
        have a4 := hcb.cell (o := i * 7 + 4) (by omega)
        have a5 := hcb.cell (o := i * 7 + 5) (by omega)
        have a6 := hcb.cell (o := i * 7 + 6) (by omega)
        have z := hcb.frozen
        have hSl := hS.lt
        have hcl := hcb.lt
        have hkey := ((((((((hcb).set (i * 7) (.int .i64 (-7))).set (i * 7 + 1) (.int .i64 (-7))).set (i * 7 + 2) (.int .i64 (-7))).set (i * 7 + 3) (.int .u64 0)).set (i * 7 + 4) (.int .u64 0)).set (i * 7 + 5) (.int .u64 0)).set (i * 7 + 6) (.int .u64 0)).congr (g := upd7 f' (i * 7)) (fun o _ => rfl)
        have FK := (((((((hfr).setC b (i * 7) (.int .i64 (-7)) (fun _ => rfl)).setC b (i * 7 + 1) (.int .i64 (-7)) (fun _ => rfl)).setC b (i * 7 + 2) (.int .i64 (-7)) (fun _ => rfl)).setC b (i * 7 + 3) (.int .u64 0) (fun _ => rfl)).setC b (i * 7 + 4) (.int .u64 0) (fun _ => rfl)).setC b (i * 7 + 5) (.int .u64 0) (fun _ => rfl)).setC b (i * 7 + 6) (.int .u64 0) (fun _ => rfl)
        have FS := ((((((((Fr.refl (fun c => c = b) wr)).setC b (i * 7) (.int .i64 (-7)) (fun _ => rfl)).setC b (i * 7 + 1) (.int .i64 (-7)) (fun _ => rfl)).setC b (i * 7 + 2) (.int .i64 (-7)) (fun _ => rfl)).setC b (i * 7 + 3) (.int .u64 0) (fun _ => rfl)).setC b (i * 7 + 4) (.int .u64 0) (fun _ => rfl)).setC b (i * 7 + 5) (.int .u64 0) (fun _ => rfl)).setC b (i * 7 + 6) (.int .u64 0) (fun _ => rfl)
        go_wp2_with fail
        go_roundg (gk - 1)
        case measure => omega
        case rel => exact ⟨i + 1, _, by simp, by omega, FK, hS.frame FS (by omega), hkey, stamped Hf.out⟩
      · have hI : decide ((i : Int) < ns.length) = false := decide_eq_false (by omega)
        have hpI : decide ((0 : Int) < ns.length) = true := decide_eq_true (by omega)
        have d8 := hdw.cell (o := 22) (by omega)
        simp only [dkCell] at d8
        have hq : D.n % 4 < 4 := by omega
        have dq := hdw.cell (show 18 + D.n % 4 < 23 by omega)
        have d2 := hdw.cell (o := 16) (by omega)
        have d3 := hdw.cell (o := 17) (by omega)
        have hz := hdw.frozen
        have ht : ((D.n : Int).tmod 4) = ((D.n % 4 : Nat) : Int) := by rw [Int.tmod_eq_emod_of_nonneg (by omega)]; omega
        have hdF0 := ((((hdw.set (18 + D.n % 4) D.lx).set 22 (.int .i64 ((D.n + 1 : Nat) : Int))).set 16 (.slice none 0 0)).set 17 (.slice none 0 0)).congr (dkCell_keep D)
        have FD := (((((Fr.refl (fun c => c = d) wr).setC d (18 + D.n % 4) D.lx (fun _ => rfl)).setC d 22 (.int .i64 ((D.n + 1 : Nat) : Int)) (fun _ => rfl)).setC d 16 (.slice none 0 0) (fun _ => rfl)).setC d 17 (.slice none 0 0) (fun _ => rfl))
        have hH : Holds7 f' (stamps ns.length) := fun k hk j hj => by
          rw [stamps_get]
          rw [stamps_len] at hk
          exact Hf.out k (by omega) j hj
        have hLV : LVi wr D.lx (stamps ns.length) := .inr ⟨b, f', by rw [hsl, stamps_len], by rw [stamps_len]; exact hcb, hH, by rw [stamps_len]; exact hp⟩
        have hob : ∀ k, k < 4 → ∀ c, isBlk (D.old k) c → ¬ c = b := fun k hk c hc e => hbo k hk (e ▸ hc)
        have hoF0 : ∀ k, k < 4 → ∃ n, n ≤ 64 ∧ LVi _ ((keepD D).old k) (stamps n) := fun k hk => by
          by_cases he : k = D.n % 4
          · exact ⟨ns.length, hl, by rw [show (keepD D).old k = D.lx by simp [keepD, upd, he]]; exact hLV.frame FD (fun c hc e => by rw [hsl] at hc; have := isBlk_one hc; omega)⟩
          · obtain ⟨n, hn, hv⟩ := ho k hk
            exact ⟨n, hn, by rw [show (keepD D).old k = D.old k by simp [keepD, upd, he]]; exact (hv.frame hfr (hob k hk)).frame FD (fun c hc e => hod k hk (e ▸ hc))⟩
        have hdF := hdF0.drew
        have hoF : Old4 _ (keepD D) := Old4.frame (D := keepD D) hoF0 (Fr.refl (fun _ => False) _).drew (fun _ _ _ _ h => h)
        have FF := ((hfr.mono (S' := fun c => c = d ∨ isBlk D.lx c) (fun c _ e => .inr (by rw [e, hsl]; exact ⟨_, _, rfl⟩))).trans FD (fun c _ e => .inl e)).drew
        rw [hsl] at hdF FF hoF
        clear hdF0 FD hoF0 hLV hH hob
        go_wp2_with fail
        refine wp_region_text (by kernel_rfl) (by kernel_rfl) ?_
        go_wp2_with fail
        refine ⟨by kernel_rfl, ?_⟩
        go_wp2_with fail
        refine (untouched_any hdF hoF).mono ?_
        rintro e w5 ⟨rfl, f5⟩
        go_wp2_with fail
        go_ret
        exact ⟨rfl, by rw [hsl]; exact FF.trans f5 (fun _ _ h => h.elim), keepD D, .inl rfl, hdF.frame f5 (fun h => h), hoF.frame f5 (fun _ _ _ _ h => h)⟩
end Go.Proofs.Qxb6500285aGreat
