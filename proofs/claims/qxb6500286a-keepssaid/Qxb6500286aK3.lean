/- The law: Again. -/
import Derived.Test.Qxb6500286aK2
namespace Go.Proofs.Qxb6500286a
open Go Go.RowKit

def keepD (D : Dk) : Dk := ⟨D.pat, D.sub, .slice none 0 0, .slice none 0 0, upd D.old (D.n % 4) D.lx, D.n + 1⟩
def dropD (D : Dk) : Dk := ⟨D.pat, D.sub, .slice none 0 0, .slice none 0 0, D.old, D.n⟩
theorem dkCell_keep (D : Dk) : ∀ o, o < 9 → upd (upd (upd (upd (dkCell D) (4 + D.n % 4) D.lx) 8 (.int .i64 ((D.n + 1 : Nat) : Int))) 2 (.slice none 0 0)) 3 (.slice none 0 0) o = dkCell (keepD D) o := by
  intro o ho
  have : D.n % 4 < 4 := by omega
  simp only [keepD, upd]
  rcases (show o = 0 ∨ o = 1 ∨ o = 2 ∨ o = 3 ∨ o = 4 ∨ o = 5 ∨ o = 6 ∨ o = 7 ∨ o = 8 by omega) with rfl | rfl | rfl | rfl | rfl | rfl | rfl | rfl | rfl <;>
  rcases (show D.n % 4 = 0 ∨ D.n % 4 = 1 ∨ D.n % 4 = 2 ∨ D.n % 4 = 3 by omega) with h | h | h | h <;> rw [h] <;> simp [dkCell, upd]
theorem dkCell_drop (D : Dk) : ∀ o, o < 9 → upd (upd (dkCell D) 2 (.slice none 0 0)) 3 (.slice none 0 0) o = dkCell (dropD D) o := by
  intro o ho
  rcases (show o = 0 ∨ o = 1 ∨ o = 2 ∨ o = 3 ∨ o = 4 ∨ o = 5 ∨ o = 6 ∨ o = 7 ∨ o = 8 by omega) with rfl | rfl | rfl | rfl | rfl | rfl | rfl | rfl | rfl <;> simp [dkCell, upd, dropD]
def Old4 (w : World) (D : Dk) : Prop := ∀ k, k < 4 → ∃ n, n ≤ 31 ∧ LVn w (D.old k) (stamps n)
theorem Old4.frame {S : Nat → Prop} {w w' : World} {D : Dk} (h : Old4 w D) (k : Fr S w w') (hb : ∀ i, i < 4 → ∀ b, isBlk (D.old i) b → ¬ S b) : Old4 w' D := fun i hi => by
  obtain ⟨n, hn, hv⟩ := h i hi
  exact ⟨n, hn, hv.frame k (hb i hi)⟩
def AgPost (w : World) (d : Nat) (D : Dk) (e : Ending) (w' : World) : Prop :=
  e = .returned (.bool true) ∧ Fr (fun b => b = d ∨ isBlk D.lx b) w w' ∧ ∃ D', (D' = keepD D ∨ D' = dropD D) ∧ Blk w' d 9 (dkCell D') ∧ Old4 w' D'
theorem upd11_stamp (f : Nat → Value) (b : Nat) : upd11 f b stampNd = (upd (upd (upd (upd (upd (upd (upd (upd (upd (upd (upd f (b) (.int .i64 (-7))) (b + 1) (.int .i64 (-7))) (b + 2) (.int .i64 (-7))) (b + 3) (.int .i64 (-7))) (b + 4) (.int .i64 (-7))) (b + 5) (.int .i64 (-7))) (b + 6) (.bool false)) (b + 7) (.int .u64 0)) (b + 8) (.int .u64 0)) (b + 9) (.int .u64 0)) (b + 10) (.int .u64 0)) := by simp [upd11, stampNd, wd_zero]
theorem stamped {f : Nat → Value} {i : Nat} (h : ∀ k, k < i → ∀ j, j < 11 → f (k * 11 + j) = ndCell stampNd j) : ∀ k, k < i + 1 → ∀ j, j < 11 → upd11 f (i * 11) stampNd (k * 11 + j) = ndCell stampNd j := by
  intro k hk j hj
  by_cases he : k = i
  · subst he; exact upd11_in _ _ _ j hj
  · rw [upd11_out _ _ _ _ (by omega)]; exact h k (by omega) j hj
set_option maxRecDepth 100000 in
set_option maxHeartbeats 8000000 in
theorem again_any {w : World} {d : Nat} {D : Dk} {ns : List Nd} (hd : Blk w d 9 (dkCell D)) (h1 : LVn w D.lx ns) (h2 : LVn w D.lm ns) (hl : ns.length ≤ 31) (ho : Old4 w D)
    (hx : ∀ b, isBlk D.lx b → b ≠ d ∧ ∀ k, k < 4 → ¬ isBlk (D.old k) b) (hod : ∀ k, k < 4 → ¬ isBlk (D.old k) d) (hN : D.n ≤ 10000000000000) :
    Calls Try.prog 67 #[.pointer (some ⟨d, 0, none⟩)] w (AgPost w d D) := by
  have hdl := hd.lt
  have hNb : (D.n : Int) ≤ 10000000000000 := by omega
  go_enter Try.func67, Try.ntmps67
  go_wp2_with fail
  refine (untouched_any hd ho).mono ?_
  rintro e w0 ⟨rfl, f0⟩
  have hd0 := hd.frame f0 (fun h => h)
  have c2 := hd0.cell (o := 2) (by omega)
  have c3 := hd0.cell (o := 3) (by omega)
  simp only [dkCell] at c2 c3
  have hdl0 := hd0.lt
  have F0 := f0.drew
  go_wp2_with fail
  refine wp_region_text (by kernel_rfl) (by kernel_rfl) ?_
  go_wp2_with fail
  refine (sameNodes_any (h1.frame F0 (fun _ _ h => h)) (h2.frame F0 (fun _ _ h => h)) hl).mono ?_
  rintro e w1 ⟨rfl, f1⟩
  have F1 := F0.trans f1 (fun _ _ h => h)
  have hd1 := hd.frame F1 (fun h => h)
  clear c2 c3
  have c2 := hd1.cell (o := 2) (by omega)
  simp only [dkCell] at c2
  have hdl1 := hd1.lt
  rcases h1 with ⟨hnil, hns⟩ | ⟨b, f, hsl, hbk, hf, hp⟩
  · rw [hnil] at c2
    go_wp2_with fail
    refine ⟨by kernel_rfl, ?_⟩
    go_wp2_with fail
    refine wp_region_text (by kernel_rfl) (by kernel_rfl) ?_
    go_wp2_with fail
    refine ⟨by kernel_rfl, ?_⟩
    go_wp2_with fail
    refine (stamp_any _).mono ?_
    rintro e w2 ⟨rfl, f2⟩
    rw [ndV_stamp]
    have F2 := ((F1.drew.trans f2 (fun _ _ h => h)).alloc (.cells #[.int .i64 (-7), .int .i64 (-7), .int .i64 (-7), .int .i64 (-7), .int .i64 (-7), .int .i64 (-7), .bool false, .int .u64 0, .int .u64 0, .int .u64 0, .int .u64 0] 70))
    have hd2 := hd.frame F2 (fun h => h)
    have z2 := hd2.frozen
    have e2 := hd2.cell (o := 2) (by omega)
    have e3 := hd2.cell (o := 3) (by omega)
    have hd2l := hd2.lt
    have hdF := ((hd2.set 2 (.slice none 0 0)).set 3 (.slice none 0 0)).congr (dkCell_drop D)
    have FF := ((F2.mono (S' := fun b => b = d ∨ isBlk D.lx b) (fun _ _ h => h.elim)).setC d 2 (.slice none 0 0) (fun _ => .inl rfl)).setC d 3 (.slice none 0 0) (fun _ => .inl rfl)
    have hoF : Old4 _ (dropD D) := ho.frame (D := D) (((F2.mono (S' := fun b => b = d) (fun _ _ h => h.elim)).setC d 2 (.slice none 0 0) (fun _ => rfl)).setC d 3 (.slice none 0 0) (fun _ => rfl)) (fun i hi b hb e => hod i hi (e ▸ hb))
    go_wp2_with fail
    refine wp_loop_rounds 1 ?_
    rw [rounds_succ]
    go_wp2_with fail
    go_ret
    exact ⟨rfl, FF, dropD D, .inr rfl, hdF, hoF⟩
  · have hbd : b ≠ d := (hx b (by rw [hsl]; exact ⟨_, _, rfl⟩)).1
    have hbo : ∀ k, k < 4 → ¬ isBlk (D.old k) b := (hx b (by rw [hsl]; exact ⟨_, _, rfl⟩)).2
    have hbl := hbk.lt
    rw [hsl] at c2
    go_wp2_with fail
    refine ⟨by kernel_rfl, ?_⟩
    go_wp2_with fail
    refine wp_region_text (by kernel_rfl) (by kernel_rfl) ?_
    go_wp2_with fail
    refine ⟨by kernel_rfl, ?_⟩
    go_wp2_with fail
    refine (stamp_any _).mono ?_
    rintro e w2 ⟨rfl, f2⟩
    rw [ndV_stamp]
    have hst := Blk.st w2
    unfold stO at hst
    have F2 := ((F1.drew.trans f2 (fun _ _ h => h)).alloc (.cells #[.int .i64 (-7), .int .i64 (-7), .int .i64 (-7), .int .i64 (-7), .int .i64 (-7), .int .i64 (-7), .bool false, .int .u64 0, .int .u64 0, .int .u64 0, .int .u64 0] 70))
    have hw2 : w.heap.size ≤ w2.heap.size := (F1.drew.trans f2 (fun _ _ h => h)).size
    clear c2
    go_wp2_with fail
    go_loopg [5] ns.length (fun g iv wr => ∃ (i : Nat) (f' : Nat → Value), iv = .int .i64 i ∧ i + g = ns.length ∧ Fr (fun c => c = b) w wr ∧ Blk wr w2.heap.size 11 (ndCell stampNd) ∧ Blk wr b (ns.length * 11) f' ∧ (∀ k, k < i → ∀ j, j < 11 → f' (k * 11 + j) = ndCell stampNd j))
    case atStart => exact ⟨0, f, rfl, by omega, F2.mono (fun _ _ h => h.elim), hst, hbk.frame F2 (fun h => h), fun k hk => by omega⟩
    case round =>
      obtain ⟨i, f', rfl, hg, hfr, hS, hcb, hf'⟩ := hrel
      have hg' : i + gk = ns.length := hg
      clear hg
      have Hf : Hid _ := hf'
      clear hf' hst F2
      have hdw := hd.frame hfr (fun h => hbd h.symm)
      have hdwl := hdw.lt
      by_cases hlt : i < ns.length
      · have hI : decide ((i : Int) < ns.length) = true := decide_eq_true (by omega)
        have hib : (i : Int) ≤ 30 := by omega
        have s0 := hS.cell (o := 0) (by omega)
        have s1 := hS.cell (o := 1) (by omega)
        have s2 := hS.cell (o := 2) (by omega)
        have s3 := hS.cell (o := 3) (by omega)
        have s4 := hS.cell (o := 4) (by omega)
        have s5 := hS.cell (o := 5) (by omega)
        have s6 := hS.cell (o := 6) (by omega)
        have s7 := hS.cell (o := 7) (by omega)
        have s8 := hS.cell (o := 8) (by omega)
        have s9 := hS.cell (o := 9) (by omega)
        have s10 := hS.cell (o := 10) (by omega)
        simp only [ndCell, stampNd, wd_zero] at s0 s1 s2 s3 s4 s5 s6 s7 s8 s9 s10
        have a0 := hcb.cell (o := i * 11) (by omega)
        have a1 := hcb.cell (o := i * 11 + 1) (by omega)
        have a2 := hcb.cell (o := i * 11 + 2) (by omega)
        have a3 := hcb.cell (o := i * 11 + 3) (by omega)
        have a4 := hcb.cell (o := i * 11 + 4) (by omega)
        have a5 := hcb.cell (o := i * 11 + 5) (by omega)
        have a6 := hcb.cell (o := i * 11 + 6) (by omega)
        have a7 := hcb.cell (o := i * 11 + 7) (by omega)
        have a8 := hcb.cell (o := i * 11 + 8) (by omega)
        have a9 := hcb.cell (o := i * 11 + 9) (by omega)
        have a10 := hcb.cell (o := i * 11 + 10) (by omega)
        have z := hcb.frozen
        have hSl := hS.lt
        have hcl := hcb.lt
        have hkey := (((((((((((hcb.set (i * 11) (.int .i64 (-7))).set (i * 11 + 1) (.int .i64 (-7))).set (i * 11 + 2) (.int .i64 (-7))).set (i * 11 + 3) (.int .i64 (-7))).set (i * 11 + 4) (.int .i64 (-7))).set (i * 11 + 5) (.int .i64 (-7))).set (i * 11 + 6) (.bool false)).set (i * 11 + 7) (.int .u64 0)).set (i * 11 + 8) (.int .u64 0)).set (i * 11 + 9) (.int .u64 0)).set (i * 11 + 10) (.int .u64 0)).congr (g := upd11 f' (i * 11) stampNd) (fun o _ => by rw [upd11_stamp])
        have FK := (((((((((((hfr.setC b (i * 11) (.int .i64 (-7)) (fun _ => rfl)).setC b (i * 11 + 1) (.int .i64 (-7)) (fun _ => rfl)).setC b (i * 11 + 2) (.int .i64 (-7)) (fun _ => rfl)).setC b (i * 11 + 3) (.int .i64 (-7)) (fun _ => rfl)).setC b (i * 11 + 4) (.int .i64 (-7)) (fun _ => rfl)).setC b (i * 11 + 5) (.int .i64 (-7)) (fun _ => rfl)).setC b (i * 11 + 6) (.bool false) (fun _ => rfl)).setC b (i * 11 + 7) (.int .u64 0) (fun _ => rfl)).setC b (i * 11 + 8) (.int .u64 0) (fun _ => rfl)).setC b (i * 11 + 9) (.int .u64 0) (fun _ => rfl)).setC b (i * 11 + 10) (.int .u64 0) (fun _ => rfl))
        have FS := ((((((((((((Fr.refl (fun c => c = b) wr).setC b (i * 11) (.int .i64 (-7)) (fun _ => rfl)).setC b (i * 11 + 1) (.int .i64 (-7)) (fun _ => rfl)).setC b (i * 11 + 2) (.int .i64 (-7)) (fun _ => rfl)).setC b (i * 11 + 3) (.int .i64 (-7)) (fun _ => rfl)).setC b (i * 11 + 4) (.int .i64 (-7)) (fun _ => rfl)).setC b (i * 11 + 5) (.int .i64 (-7)) (fun _ => rfl)).setC b (i * 11 + 6) (.bool false) (fun _ => rfl)).setC b (i * 11 + 7) (.int .u64 0) (fun _ => rfl)).setC b (i * 11 + 8) (.int .u64 0) (fun _ => rfl)).setC b (i * 11 + 9) (.int .u64 0) (fun _ => rfl)).setC b (i * 11 + 10) (.int .u64 0) (fun _ => rfl))
        go_wp2_with fail
        go_roundg (gk - 1)
        case measure => omega
        case rel => exact ⟨i + 1, _, by simp, by omega, FK, hS.frame FS (by omega), hkey, stamped Hf.out⟩
      · have hI : decide ((i : Int) < ns.length) = false := decide_eq_false (by omega)
        have hpI : decide ((0 : Int) < ns.length) = true := decide_eq_true (by omega)
        have d8 := hdw.cell (o := 8) (by omega)
        simp only [dkCell] at d8
        have hq : D.n % 4 < 4 := by omega
        have dq := hdw.cell (show 4 + D.n % 4 < 9 by omega)
        have d2 := hdw.cell (o := 2) (by omega)
        have d3 := hdw.cell (o := 3) (by omega)
        have hz := hdw.frozen
        have ht : ((D.n : Int).tmod 4) = ((D.n % 4 : Nat) : Int) := by rw [Int.tmod_eq_emod_of_nonneg (by omega)]; omega
        have hdF0 := ((((hdw.set (4 + D.n % 4) D.lx).set 8 (.int .i64 ((D.n + 1 : Nat) : Int))).set 2 (.slice none 0 0)).set 3 (.slice none 0 0)).congr (dkCell_keep D)
        have FD := (((((Fr.refl (fun c => c = d) wr).setC d (4 + D.n % 4) D.lx (fun _ => rfl)).setC d 8 (.int .i64 ((D.n + 1 : Nat) : Int)) (fun _ => rfl)).setC d 2 (.slice none 0 0) (fun _ => rfl)).setC d 3 (.slice none 0 0) (fun _ => rfl))
        have hH : Holds11 f' (stamps ns.length) := fun k hk j hj => by
          rw [stamps_get]
          rw [stamps_len] at hk
          exact Hf.out k (by omega) j hj
        have hLV : LVn wr D.lx (stamps ns.length) := .inr ⟨b, f', by rw [hsl, stamps_len], by rw [stamps_len]; exact hcb, hH, by rw [stamps_len]; exact hp⟩
        have hob : ∀ k, k < 4 → ∀ c, isBlk (D.old k) c → ¬ c = b := fun k hk c hc e => hbo k hk (e ▸ hc)
        have hoF0 : ∀ k, k < 4 → ∃ n, n ≤ 31 ∧ LVn _ ((keepD D).old k) (stamps n) := fun k hk => by
          by_cases he : k = D.n % 4
          · exact ⟨ns.length, hl, by rw [show (keepD D).old k = D.lx by simp [keepD, upd, he]]; exact hLV.frame FD (fun c hc e => by rw [hsl] at hc; obtain ⟨_, _, e2⟩ := hc; injection e2 with e2; injection e2 with e2; injection e2 with e2; omega)⟩
          · obtain ⟨n, hn, hv⟩ := ho k hk
            exact ⟨n, hn, by rw [show (keepD D).old k = D.old k by simp [keepD, upd, he]]; exact (hv.frame hfr (hob k hk)).frame FD (fun c hc e => hod k hk (e ▸ hc))⟩
        have hdF := hdF0.drew
        have hoF : Old4 _ (keepD D) := Old4.frame (D := keepD D) hoF0 (Fr.refl (fun _ => False) _).drew (fun _ _ _ _ h => h)
        have FF := ((hfr.mono (S' := fun c => c = d ∨ isBlk D.lx c) (fun c _ e => .inr (by rw [e, hsl]; exact ⟨_, _, rfl⟩))).trans FD (fun c _ e => .inl e)).drew
        rw [hsl] at hdF FF hoF
        clear hdF0 FD hoF0 hLV hH hob
        go_wp2_with fail
        refine wp_region_text (by kernel_rfl) (by kernel_rfl) ?_
        go_wp2_with fail
        refine ⟨by kernel_rfl, ?_⟩
        go_wp2_with fail
        go_ret
        exact ⟨rfl, by rw [hsl]; exact FF, keepD D, .inl rfl, hdF, hoF⟩
end Go.Proofs.Qxb6500286a
