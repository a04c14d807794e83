/- IsCore, Sound. -/
import Derived.Test.Qxb6500286aX9
namespace Go.Proofs.Qxb6500286a
open Go Go.RowKit

def Wt (fw : Nat → Value) : List Nat → Prop
  | [] => True
  | x :: S => fw S.length = .int .i64 (x : Nat) ∧ Wt fw S
theorem Wt.upd {fw : Nat → Value} {o : Nat} (v : Value) : ∀ {S : List Nat}, S.length ≤ o → Wt fw S → Wt (Go.Proofs.Qxb6500286a.upd fw o v) S
  | [], _, _ => trivial
  | x :: S, h, ⟨h1, h2⟩ => by
    simp only [List.length_cons] at h
    exact ⟨by rw [upd_other _ _ _ _ (by omega)]; exact h1, Wt.upd v (by omega) h2⟩
theorem Wt.push {fw : Nat → Value} {S : List Nat} (i : Nat) (h : Wt fw S) : Wt (Go.Proofs.Qxb6500286a.upd fw S.length (.int .i64 (i : Nat))) (i :: S) := ⟨upd_same _ _ _, h.upd _ (Nat.le_refl _)⟩
inductive CkV (ns : List Nd) (N g i : Nat) (S S' : List Nat) : Prop
  | leaf (k : Int) : ns[i]? = some (leafNd k noP) → (k = 0 ∨ k = 2 ∨ k = 3) → S' = i :: S → CkV ns N g i S S'
  | set (P : BSet) : ns[i]? = some (leafNd 1 P) → (setE P = true → N ≤ 1) → S' = i :: S → CkV ns N g i S S'
  | cat (A B : Nat) (na nb : Nd) (T : List Nat) : ns[i]? = some (catNd A B) → ns[A]? = some na → na.kind ≠ 0 → ns[B]? = some nb → nb.kind ≠ 0 → S = B :: A :: T → S' = i :: T → CkV ns N g i S S'
  | alt (A B : Nat) (T : List Nat) : ns[i]? = some (altNd A B) → S = B :: A :: T → S' = i :: T → CkV ns N g i S S'
  | grp (A c : Nat) (T : List Nat) : ns[i]? = some (grpNd A c) → 1 ≤ c → c ≤ g → S = A :: T → S' = i :: T → CkV ns N g i S S'
  | rep (A : Nat) (lz : Bool) (T : List Nat) : ns[i]? = some (repNd A 0 (-1) lz) → nul ns A = false → S = A :: T → S' = i :: T → CkV ns N g i S S'
theorem Ck.v {ns : List Nd} {N g i : Nat} {S S' : List Nat} (h : Ck ns N g i S S') : CkV ns N g i S S' := by
  cases h with
  | leaf h1 h2 =>
    rcases h2 with rfl | rfl | rfl
    · exact .leaf 0 h1 (.inl rfl) rfl
    · exact .leaf 2 h1 (.inr (.inl rfl)) rfl
    · exact .leaf 3 h1 (.inr (.inr rfl)) rfl
  | set h1 h2 => exact .set _ h1 h2 rfl
  | cat h1 h2 h3 h4 h5 => exact .cat _ _ _ _ _ h1 h2 h3 h4 h5 rfl rfl
  | alt h1 => exact .alt _ _ _ h1 rfl rfl
  | grp h1 h2 h3 => exact .grp _ _ _ h1 h2 h3 rfl rfl
  | rep h1 h2 => exact .rep _ _ _ h1 h2 rfl rfl
theorem Ck.len {ns : List Nd} {N g i : Nat} {S S' : List Nat} (h : Ck ns N g i S S') : S'.length ≤ S.length + 1 := by
  cases h <;> simp <;> omega
theorem path_len {ns : List Nd} {N g n : Nat} {S : Nat → List Nat} (h0 : S 0 = []) (h : ∀ i, i < n → Ck ns N g i (S i) (S (i + 1))) : ∀ i, i ≤ n → (S i).length ≤ i := by
  intro i
  induction i with
  | zero => intro _; rw [h0]; simp
  | succ i ih =>
    intro hi
    have := ih (by omega)
    have := (h i (by omega)).len
    omega
theorem wt_z (n : Nat) : ∀ o, o < n → (fun k => (Value.int .i64 0).cells[k % (Value.int .i64 0).cells.size]!) o = .int .i64 0 := fun o _ => by simp [Value.cells, Nat.mod_one]
set_option maxRecDepth 100000 in
set_option maxHeartbeats 32000000 in
theorem isCore_any {cl : List Nd} {bk cp g : Nat} {w : World} (hN : NPAt w bk cl) (hbl : bk < w.heap.size) (h1 : 1 ≤ cl.length) (h31 : cl.length ≤ 31) (hg : g ≤ 3) (hwf : WF cl) (hC : Chk cl cl.length g cl.length [cl.length - 1]) :
    Calls Try.prog 22 #[.agg #[.slice (some ⟨bk, 0, none⟩) cl.length cp, .int .i64 ((cl.length - 1 : Nat) : Int), .int .i64 (g : Nat), .int .i64 0, .int .i64 0]] w fun e w' => e = .returned (.bool true) ∧ Fr (fun _ => False) w w' := by
  obtain ⟨S, hS0, hSn, hck⟩ := hC.path
  have hlen := path_len hS0 hck
  have Hck : Hid _ := hck
  have Hlen : Hid _ := hlen
  have HSn : Hid _ := hSn
  clear hck hlen hSn hC
  have h31I : (cl.length : Int) ≤ 31 := by omega
  have h1I : (1 : Int) ≤ cl.length := by omega
  have hgI : (g : Int) ≤ 3 := by omega
  have i1 : decide ((cl.length : Int) < 1) = false := decide_eq_false (by omega)
  have i2 : decide ((31 : Int) < cl.length) = false := decide_eq_false (by omega)
  have i3 : ((((cl.length - 1 : Nat) : Int)) == (cl.length : Int) - 1) = true := by simp; omega
  have i3' : ((((cl.length - 1 : Nat) : Int)) != (cl.length : Int) - 1) = false := by simp; omega
  have i4 : decide ((g : Int) < 0) = false := decide_eq_false (by omega)
  have i5 : decide ((3 : Int) < g) = false := decide_eq_false (by omega)
  have hTv := Blk.tv w (.slice (some ⟨bk, 0, none⟩) cl.length cp) (.int .i64 ((cl.length - 1 : Nat) : Int)) (.int .i64 (g : Nat)) (.int .i64 0) (.int .i64 0)
  have f1 := (Fr.refl (fun _ => False) w).alloc (.cells #[.slice (some ⟨bk, 0, none⟩) cl.length cp, .int .i64 ((cl.length - 1 : Nat) : Int), .int .i64 (g : Nat), .int .i64 0, .int .i64 0] 41)
  go_enter Try.func22, Try.ntmps22
  go_wp2_with (refine wpList_makeB (by rfl) 49 _ _ (by rfl) 3 1 8 (.int .i64 0) cl.length (by rfl) (by rfl) Try.underlying49 (by kernel_rfl) (by kernel_rfl) (by kernel_rfl) (by omega) (by omega) ?_; intro w2 f2 z2 b2)
  have b2' : Blk w2 (w.heap.size + 1) cl.length (fun _ => .int .i64 0) := by
    rw [Nat.mul_one, World.size_alloc] at b2
    exact b2.congr (wt_z cl.length)
  have hTv2 := hTv.frame f2 (fun h => h)
  have F2 := f1.trans f2 (fun _ _ h => h)
  have hsz2 : w2.heap.size = w.heap.size + 1 + 1 := by simpa using z2
  clear b2 hTv f1 f2 z2
  go_loopg [6, 5] cl.length (fun gq iv tv wr => ∃ (i : Nat) (fw : Nat → Value) (p : Nat), iv = .int .i64 (i : Nat) ∧ i + gq = cl.length ∧ Hid (p = (S i).length) ∧ tv = .int .i64 (p : Nat) ∧ Blk wr (w.heap.size + 1) cl.length fw ∧ Hid (Wt fw (S i)) ∧ Fr (fun b => b = w.heap.size + 1) w2 wr)
  case atStart => exact ⟨0, _, 0, rfl, by omega, by show 0 = (S 0).length; rw [hS0]; rfl, rfl, b2', by show Wt _ (S 0); rw [hS0]; trivial, Fr.refl _ _⟩
  case round =>
    obtain ⟨i, fw, p, rfl, hig', Hp, rfl, hB, HW, hr⟩ := hrel
    have hig : i + gk = cl.length := hig'
    clear hig' b2'
    have hiI : (i : Int) ≤ 31 := by omega
    have hTvr := hTv2.frame hr (by omega)
    have FR : Fr (fun _ => False) w wr := F2.trans hr (fun b hb h => by omega)
    have hszr := hr.size
    have q0 := hTvr.cell (o := 0) (by omega)
    have q1 := hTvr.cell (o := 1) (by omega)
    have q2 := hTvr.cell (o := 2) (by omega)
    have q3 := hTvr.cell (o := 3) (by omega)
    have q4 := hTvr.cell (o := 4) (by omega)
    simp only [trF5] at q0 q1 q2 q3 q4
    have lTv := hTvr.lt
    have lB := hB.lt
    have zB := hB.frozen
    by_cases hlt : i < cl.length
    · have tI : decide ((i : Int) < cl.length) = true := decide_eq_true (by omega)
      have hiL : (i : Int) < cl.length := by omega
      have hNr := hN.frame FR (fun h => h)
      have hck := (Hck.out i hlt).v
      have hpl : p ≤ i := by have := Hlen.out i (by omega); have := Hp.out; omega
      have hpI : (p : Int) ≤ 31 := by omega
      rcases hck with ⟨k, hg1, hk, hnx⟩ | ⟨P, hg1, hP, hnx⟩ | ⟨A, B, na, nb, T, hg1, hgA, hka, hgB, hkb, hST, hnx⟩ | ⟨A, B, T, hg1, hST, hnx⟩ | ⟨A, c, T, hg1, hc1, hcg, hST, hnx⟩ | ⟨A, lz, T, hg1, hnu, hST, hnx⟩
      · obtain ⟨_, hnd⟩ := getE hg1
        have n0 := hNr i hlt 0 (by omega)
        have n1 := hNr i hlt 1 (by omega)
        have n2 := hNr i hlt 2 (by omega)
        have n3 := hNr i hlt 3 (by omega)
        have n4 := hNr i hlt 4 (by omega)
        have n5 := hNr i hlt 5 (by omega)
        have n6 := hNr i hlt 6 (by omega)
        have n7 := hNr i hlt 7 (by omega)
        have n8 := hNr i hlt 8 (by omega)
        have n9 := hNr i hlt 9 (by omega)
        have n10 := hNr i hlt 10 (by omega)
        rw [hnd] at n0 n1 n2 n3 n4 n5 n6 n7 n8 n9 n10
        simp only [ndCell, leafNd, wd_zero, Nat.add_zero] at n0 n1 n2 n3 n4 n5 n6 n7 n8 n9 n10
        have Hnx : Hid _ := hnx
        clear hnx hg1 hnd
        rcases hk with rfl | rfl | rfl
        · have tp : decide ((p : Int) < 0) = false := decide_eq_false (by omega)
          have kN := (Fr.refl (fun _ => False) wr).alloc (.cells #[.int .i64 0, .int .i64 (-1), .int .i64 (-1), .int .i64 0, .int .i64 0, .int .i64 0, .bool false, .int .u64 0, .int .u64 0, .int .u64 0, .int .u64 0] 70)
          go_wp2_with fail
          refine (rest_plain 0 (-1) (-1) _).mono ?_
          rintro v w5 ⟨rfl, f5⟩
          have k5 := kN.trans f5 (fun _ _ h => h)
          have hB5 := hB.frame k5 (fun h => h)
          have hTv5 := hTvr.frame k5 (fun h => h)
          have hN5 := hNr.frame k5 (fun h => h)
          have F5 := hr.trans k5 (fun _ _ h => h.elim)
          have sz5 := k5.size
          clear q0 q1 q2 q3 q4 lTv lB zB
          have q0 := hTv5.cell (o := 0) (by omega)
          have q1 := hTv5.cell (o := 1) (by omega)
          have q2 := hTv5.cell (o := 2) (by omega)
          have q3 := hTv5.cell (o := 3) (by omega)
          have q4 := hTv5.cell (o := 4) (by omega)
          simp only [trF5] at q0 q1 q2 q3 q4
          have lTv := hTv5.lt
          have lB := hB5.lt
          have zB := hB5.frozen
          have hNb := f5.newCell (by simp)
          have hNl : wr.heap.size < w5.heap.size := by have := f5.size; rw [World.size_alloc] at this; omega
          have x0 : w5.cell? ⟨wr.heap.size, 0, none⟩ = some (.int .i64 0) := by rw [hNb 0]; rfl
          have x1 : w5.cell? ⟨wr.heap.size, 1, none⟩ = some (.int .i64 (-1)) := by rw [hNb 1]; rfl
          have x2 : w5.cell? ⟨wr.heap.size, 2, none⟩ = some (.int .i64 (-1)) := by rw [hNb 2]; rfl
          clear hNb
          have cT := hB5.cell (o := p) (by omega)
          have hBN := hB5.set p (.int .i64 (i : Nat))
          have FN := F5.setC (w.heap.size + 1) p (.int .i64 (i : Nat)) (fun _ => rfl)
          go_wp2_with fail
          go_roundg (gk - 1)
          case measure => omega
          case rel => exact ⟨i + 1, _, p + 1, by simp, by omega, by show p + 1 = (S (i + 1)).length; rw [Hnx.out]; simp [Hp.out], by simp, hBN, by show Wt _ (S (i + 1)); rw [Hnx.out]; rw [Hp.out]; exact HW.out.push i, FN⟩
        · have tp : decide ((p : Int) < 0) = false := decide_eq_false (by omega)
          have kN := (Fr.refl (fun _ => False) wr).alloc (.cells #[.int .i64 2, .int .i64 (-1), .int .i64 (-1), .int .i64 0, .int .i64 0, .int .i64 0, .bool false, .int .u64 0, .int .u64 0, .int .u64 0, .int .u64 0] 70)
          go_wp2_with fail
          refine (rest_plain 2 (-1) (-1) _).mono ?_
          rintro v w5 ⟨rfl, f5⟩
          have k5 := kN.trans f5 (fun _ _ h => h)
          have hB5 := hB.frame k5 (fun h => h)
          have hTv5 := hTvr.frame k5 (fun h => h)
          have hN5 := hNr.frame k5 (fun h => h)
          have F5 := hr.trans k5 (fun _ _ h => h.elim)
          have sz5 := k5.size
          clear q0 q1 q2 q3 q4 lTv lB zB
          have q0 := hTv5.cell (o := 0) (by omega)
          have q1 := hTv5.cell (o := 1) (by omega)
          have q2 := hTv5.cell (o := 2) (by omega)
          have q3 := hTv5.cell (o := 3) (by omega)
          have q4 := hTv5.cell (o := 4) (by omega)
          simp only [trF5] at q0 q1 q2 q3 q4
          have lTv := hTv5.lt
          have lB := hB5.lt
          have zB := hB5.frozen
          have hNb := f5.newCell (by simp)
          have hNl : wr.heap.size < w5.heap.size := by have := f5.size; rw [World.size_alloc] at this; omega
          have x0 : w5.cell? ⟨wr.heap.size, 0, none⟩ = some (.int .i64 2) := by rw [hNb 0]; rfl
          have x1 : w5.cell? ⟨wr.heap.size, 1, none⟩ = some (.int .i64 (-1)) := by rw [hNb 1]; rfl
          have x2 : w5.cell? ⟨wr.heap.size, 2, none⟩ = some (.int .i64 (-1)) := by rw [hNb 2]; rfl
          clear hNb
          have cT := hB5.cell (o := p) (by omega)
          have hBN := hB5.set p (.int .i64 (i : Nat))
          have FN := F5.setC (w.heap.size + 1) p (.int .i64 (i : Nat)) (fun _ => rfl)
          go_wp2_with fail
          go_roundg (gk - 1)
          case measure => omega
          case rel => exact ⟨i + 1, _, p + 1, by simp, by omega, by show p + 1 = (S (i + 1)).length; rw [Hnx.out]; simp [Hp.out], by simp, hBN, by show Wt _ (S (i + 1)); rw [Hnx.out]; rw [Hp.out]; exact HW.out.push i, FN⟩
        · have tp : decide ((p : Int) < 0) = false := decide_eq_false (by omega)
          have kN := (Fr.refl (fun _ => False) wr).alloc (.cells #[.int .i64 3, .int .i64 (-1), .int .i64 (-1), .int .i64 0, .int .i64 0, .int .i64 0, .bool false, .int .u64 0, .int .u64 0, .int .u64 0, .int .u64 0] 70)
          go_wp2_with fail
          refine (rest_plain 3 (-1) (-1) _).mono ?_
          rintro v w5 ⟨rfl, f5⟩
          have k5 := kN.trans f5 (fun _ _ h => h)
          have hB5 := hB.frame k5 (fun h => h)
          have hTv5 := hTvr.frame k5 (fun h => h)
          have hN5 := hNr.frame k5 (fun h => h)
          have F5 := hr.trans k5 (fun _ _ h => h.elim)
          have sz5 := k5.size
          clear q0 q1 q2 q3 q4 lTv lB zB
          have q0 := hTv5.cell (o := 0) (by omega)
          have q1 := hTv5.cell (o := 1) (by omega)
          have q2 := hTv5.cell (o := 2) (by omega)
          have q3 := hTv5.cell (o := 3) (by omega)
          have q4 := hTv5.cell (o := 4) (by omega)
          simp only [trF5] at q0 q1 q2 q3 q4
          have lTv := hTv5.lt
          have lB := hB5.lt
          have zB := hB5.frozen
          have hNb := f5.newCell (by simp)
          have hNl : wr.heap.size < w5.heap.size := by have := f5.size; rw [World.size_alloc] at this; omega
          have x0 : w5.cell? ⟨wr.heap.size, 0, none⟩ = some (.int .i64 3) := by rw [hNb 0]; rfl
          have x1 : w5.cell? ⟨wr.heap.size, 1, none⟩ = some (.int .i64 (-1)) := by rw [hNb 1]; rfl
          have x2 : w5.cell? ⟨wr.heap.size, 2, none⟩ = some (.int .i64 (-1)) := by rw [hNb 2]; rfl
          clear hNb
          have cT := hB5.cell (o := p) (by omega)
          have hBN := hB5.set p (.int .i64 (i : Nat))
          have FN := F5.setC (w.heap.size + 1) p (.int .i64 (i : Nat)) (fun _ => rfl)
          go_wp2_with fail
          go_roundg (gk - 1)
          case measure => omega
          case rel => exact ⟨i + 1, _, p + 1, by simp, by omega, by show p + 1 = (S (i + 1)).length; rw [Hnx.out]; simp [Hp.out], by simp, hBN, by show Wt _ (S (i + 1)); rw [Hnx.out]; rw [Hp.out]; exact HW.out.push i, FN⟩
      · obtain ⟨_, hnd⟩ := getE hg1
        have n0 := hNr i hlt 0 (by omega)
        have n1 := hNr i hlt 1 (by omega)
        have n2 := hNr i hlt 2 (by omega)
        have n3 := hNr i hlt 3 (by omega)
        have n4 := hNr i hlt 4 (by omega)
        have n5 := hNr i hlt 5 (by omega)
        have n6 := hNr i hlt 6 (by omega)
        have n7 := hNr i hlt 7 (by omega)
        have n8 := hNr i hlt 8 (by omega)
        have n9 := hNr i hlt 9 (by omega)
        have n10 := hNr i hlt 10 (by omega)
        rw [hnd] at n0 n1 n2 n3 n4 n5 n6 n7 n8 n9 n10
        simp only [ndCell, leafNd, Nat.add_zero] at n0 n1 n2 n3 n4 n5 n6 n7 n8 n9 n10
        have Hnx : Hid _ := hnx
        clear hnx hg1 hnd
        have tp : decide ((p : Int) < 0) = false := decide_eq_false (by omega)
        have e2 := fun w => run_equalZero 9998 (wd P 0 : Nat) (wd P 1 : Nat) (wd P 2 : Nat) (wd P 3 : Nat) w
        have eg := eqg68
        cases hse : setE P with
        | true =>
          have hbz : (decide (((wd P 0 : Nat) : Int) = 0) && decide (((wd P 1 : Nat) : Int) = 0) && decide (((wd P 2 : Nat) : Int) = 0) && decide (((wd P 3 : Nat) : Int) = 0)) = true := by
            unfold setE at hse
            rw [← hse]
            simp
          simp only [hbz] at e2
          clear hbz
          have hN1 : decide ((1 : Int) < cl.length) = false := decide_eq_false (by have := hP hse; omega)
          clear hse hP
          have kN := (Fr.refl (fun _ => False) wr).alloc (.cells #[.int .i64 1, .int .i64 (-1), .int .i64 (-1), .int .i64 0, .int .i64 0, .int .i64 0, .bool false, .int .u64 (wd P 0 : Nat), .int .u64 (wd P 1 : Nat), .int .u64 (wd P 2 : Nat), .int .u64 (wd P 3 : Nat)] 70)
          go_wp2_with fail
          refine (rest_set 1 (-1) (-1) P _).mono ?_
          rintro v w5 ⟨rfl, f5⟩
          have k5 := kN.trans f5 (fun _ _ h => h)
          have hB5 := hB.frame k5 (fun h => h)
          have hTv5 := hTvr.frame k5 (fun h => h)
          have hN5 := hNr.frame k5 (fun h => h)
          have F5 := hr.trans k5 (fun _ _ h => h.elim)
          have sz5 := k5.size
          clear q0 q1 q2 q3 q4 lTv lB zB
          have q0 := hTv5.cell (o := 0) (by omega)
          have q1 := hTv5.cell (o := 1) (by omega)
          have q2 := hTv5.cell (o := 2) (by omega)
          have q3 := hTv5.cell (o := 3) (by omega)
          have q4 := hTv5.cell (o := 4) (by omega)
          simp only [trF5] at q0 q1 q2 q3 q4
          have lTv := hTv5.lt
          have lB := hB5.lt
          have zB := hB5.frozen
          have hNb := f5.newCell (by simp)
          have hNl : wr.heap.size < w5.heap.size := by have := f5.size; rw [World.size_alloc] at this; omega
          have x0 : w5.cell? ⟨wr.heap.size, 0, none⟩ = some (.int .i64 1) := by rw [hNb 0]; rfl
          have x1 : w5.cell? ⟨wr.heap.size, 1, none⟩ = some (.int .i64 (-1)) := by rw [hNb 1]; rfl
          have x2 : w5.cell? ⟨wr.heap.size, 2, none⟩ = some (.int .i64 (-1)) := by rw [hNb 2]; rfl
          have x7 : w5.cell? ⟨wr.heap.size, 7, none⟩ = some (.int .u64 (wd P 0 : Nat)) := by rw [hNb 7]; rfl
          have x8 : w5.cell? ⟨wr.heap.size, 8, none⟩ = some (.int .u64 (wd P 1 : Nat)) := by rw [hNb 8]; rfl
          have x9 : w5.cell? ⟨wr.heap.size, 9, none⟩ = some (.int .u64 (wd P 2 : Nat)) := by rw [hNb 9]; rfl
          have x10 : w5.cell? ⟨wr.heap.size, 10, none⟩ = some (.int .u64 (wd P 3 : Nat)) := by rw [hNb 10]; rfl
          clear hNb
          have cT := hB5.cell (o := p) (by omega)
          have hBN := hB5.set p (.int .i64 (i : Nat))
          have FN := F5.setC (w.heap.size + 1) p (.int .i64 (i : Nat)) (fun _ => rfl)
          go_wp2_with fail
          go_roundg (gk - 1)
          case measure => omega
          case rel => exact ⟨i + 1, _, p + 1, by simp, by omega, by show p + 1 = (S (i + 1)).length; rw [Hnx.out]; simp [Hp.out], by simp, hBN, by show Wt _ (S (i + 1)); rw [Hnx.out]; rw [Hp.out]; exact HW.out.push i, FN⟩
        | false =>
          have hbz : (decide (((wd P 0 : Nat) : Int) = 0) && decide (((wd P 1 : Nat) : Int) = 0) && decide (((wd P 2 : Nat) : Int) = 0) && decide (((wd P 3 : Nat) : Int) = 0)) = false := by
            unfold setE at hse
            rw [← hse]
            simp
          simp only [hbz] at e2
          clear hbz
          clear hse hP
          have kN := (Fr.refl (fun _ => False) wr).alloc (.cells #[.int .i64 1, .int .i64 (-1), .int .i64 (-1), .int .i64 0, .int .i64 0, .int .i64 0, .bool false, .int .u64 (wd P 0 : Nat), .int .u64 (wd P 1 : Nat), .int .u64 (wd P 2 : Nat), .int .u64 (wd P 3 : Nat)] 70)
          go_wp2_with fail
          refine (rest_set 1 (-1) (-1) P _).mono ?_
          rintro v w5 ⟨rfl, f5⟩
          have k5 := kN.trans f5 (fun _ _ h => h)
          have hB5 := hB.frame k5 (fun h => h)
          have hTv5 := hTvr.frame k5 (fun h => h)
          have hN5 := hNr.frame k5 (fun h => h)
          have F5 := hr.trans k5 (fun _ _ h => h.elim)
          have sz5 := k5.size
          clear q0 q1 q2 q3 q4 lTv lB zB
          have q0 := hTv5.cell (o := 0) (by omega)
          have q1 := hTv5.cell (o := 1) (by omega)
          have q2 := hTv5.cell (o := 2) (by omega)
          have q3 := hTv5.cell (o := 3) (by omega)
          have q4 := hTv5.cell (o := 4) (by omega)
          simp only [trF5] at q0 q1 q2 q3 q4
          have lTv := hTv5.lt
          have lB := hB5.lt
          have zB := hB5.frozen
          have hNb := f5.newCell (by simp)
          have hNl : wr.heap.size < w5.heap.size := by have := f5.size; rw [World.size_alloc] at this; omega
          have x0 : w5.cell? ⟨wr.heap.size, 0, none⟩ = some (.int .i64 1) := by rw [hNb 0]; rfl
          have x1 : w5.cell? ⟨wr.heap.size, 1, none⟩ = some (.int .i64 (-1)) := by rw [hNb 1]; rfl
          have x2 : w5.cell? ⟨wr.heap.size, 2, none⟩ = some (.int .i64 (-1)) := by rw [hNb 2]; rfl
          have x7 : w5.cell? ⟨wr.heap.size, 7, none⟩ = some (.int .u64 (wd P 0 : Nat)) := by rw [hNb 7]; rfl
          have x8 : w5.cell? ⟨wr.heap.size, 8, none⟩ = some (.int .u64 (wd P 1 : Nat)) := by rw [hNb 8]; rfl
          have x9 : w5.cell? ⟨wr.heap.size, 9, none⟩ = some (.int .u64 (wd P 2 : Nat)) := by rw [hNb 9]; rfl
          have x10 : w5.cell? ⟨wr.heap.size, 10, none⟩ = some (.int .u64 (wd P 3 : Nat)) := by rw [hNb 10]; rfl
          clear hNb
          have cT := hB5.cell (o := p) (by omega)
          have hBN := hB5.set p (.int .i64 (i : Nat))
          have FN := F5.setC (w.heap.size + 1) p (.int .i64 (i : Nat)) (fun _ => rfl)
          go_wp2_with fail
          go_roundg (gk - 1)
          case measure => omega
          case rel => exact ⟨i + 1, _, p + 1, by simp, by omega, by show p + 1 = (S (i + 1)).length; rw [Hnx.out]; simp [Hp.out], by simp, hBN, by show Wt _ (S (i + 1)); rw [Hnx.out]; rw [Hp.out]; exact HW.out.push i, FN⟩
      · obtain ⟨_, hnd⟩ := getE hg1
        have n0 := hNr i hlt 0 (by omega)
        have n1 := hNr i hlt 1 (by omega)
        have n2 := hNr i hlt 2 (by omega)
        have n3 := hNr i hlt 3 (by omega)
        have n4 := hNr i hlt 4 (by omega)
        have n5 := hNr i hlt 5 (by omega)
        have n6 := hNr i hlt 6 (by omega)
        have n7 := hNr i hlt 7 (by omega)
        have n8 := hNr i hlt 8 (by omega)
        have n9 := hNr i hlt 9 (by omega)
        have n10 := hNr i hlt 10 (by omega)
        rw [hnd] at n0 n1 n2 n3 n4 n5 n6 n7 n8 n9 n10
        simp only [ndCell, catNd, wd_zero, Nat.add_zero] at n0 n1 n2 n3 n4 n5 n6 n7 n8 n9 n10
        have Hnx : Hid _ := hnx
        clear hnx hg1 hnd
        have hpT : Hid (p = T.length + 2) := by show p = T.length + 2; rw [Hp.out, hST]; rfl
        obtain ⟨t, ht⟩ : ∃ t, Hid (t = T.length) := ⟨_, rfl⟩
        obtain rfl : p = t + 2 := by have := hpT.out; have := ht.out; omega
        have HWT : Hid (Wt fw (B :: A :: T)) := by show Wt fw (B :: A :: T); rw [← hST]; exact HW.out
        have fB : fw (t + 1) = .int .i64 (B : Nat) := by have := HWT.out.1; rw [List.length_cons, ← ht.out] at this; exact this
        have fA : fw t = .int .i64 (A : Nat) := by have := HWT.out.2.1; rw [← ht.out] at this; exact this
        have htI : (t : Int) ≤ 31 := by omega
        have htl : t + 2 ≤ i := hpl
        clear hpT hST hpI hpl
        have tp : decide (((t + 2 : Nat) : Int) < 2) = false := decide_eq_false (by omega)
        have tp' : decide ((t : Int) + 2 < 2) = false := decide_eq_false (by omega)
        have kN := (Fr.refl (fun _ => False) wr).alloc (.cells #[.int .i64 4, .int .i64 (A : Nat), .int .i64 (B : Nat), .int .i64 0, .int .i64 0, .int .i64 0, .bool false, .int .u64 0, .int .u64 0, .int .u64 0, .int .u64 0] 70)
        go_wp2_with fail
        refine (rest_plain 4 (A : Nat) (B : Nat) _).mono ?_
        rintro v w5 ⟨rfl, f5⟩
        have k5 := kN.trans f5 (fun _ _ h => h)
        have hB5 := hB.frame k5 (fun h => h)
        have hTv5 := hTvr.frame k5 (fun h => h)
        have hN5 := hNr.frame k5 (fun h => h)
        have F5 := hr.trans k5 (fun _ _ h => h.elim)
        have sz5 := k5.size
        clear q0 q1 q2 q3 q4 lTv lB zB
        have q0 := hTv5.cell (o := 0) (by omega)
        have q1 := hTv5.cell (o := 1) (by omega)
        have q2 := hTv5.cell (o := 2) (by omega)
        have q3 := hTv5.cell (o := 3) (by omega)
        have q4 := hTv5.cell (o := 4) (by omega)
        simp only [trF5] at q0 q1 q2 q3 q4
        have lTv := hTv5.lt
        have lB := hB5.lt
        have zB := hB5.frozen
        have hNb := f5.newCell (by simp)
        have hNl : wr.heap.size < w5.heap.size := by have := f5.size; rw [World.size_alloc] at this; omega
        have x0 : w5.cell? ⟨wr.heap.size, 0, none⟩ = some (.int .i64 4) := by rw [hNb 0]; rfl
        have x1 : w5.cell? ⟨wr.heap.size, 1, none⟩ = some (.int .i64 (A : Nat)) := by rw [hNb 1]; rfl
        have x2 : w5.cell? ⟨wr.heap.size, 2, none⟩ = some (.int .i64 (B : Nat)) := by rw [hNb 2]; rfl
        clear hNb
        have wA := hB5.cell (o := t) (by omega)
        have wB := hB5.cell (o := t + 1) (by omega)
        rw [fA] at wA
        rw [fB] at wB
        have s1 : (t : Int) + 2 - 1 = (t : Int) + 1 := by omega
        have s2 : (t : Int) + 2 - 2 = (t : Int) := by omega
        obtain ⟨lA, hAe⟩ := getE hgA
        obtain ⟨lBb, hBe⟩ := getE hgB
        have kA := hN5 A lA 0 (by omega)
        have kB := hN5 B lBb 0 (by omega)
        rw [hAe] at kA
        rw [hBe] at kB
        simp only [ndCell, Nat.add_zero] at kA kB
        have tA : (na.kind == 0) = false := by simpa using hka
        have tB : (nb.kind == 0) = false := by simpa using hkb
        have lAI : (A : Int) < cl.length := by omega
        have lBI : (B : Int) < cl.length := by omega
        have lbk : bk < w5.heap.size := by have := FR.size; omega
        clear hgA hgB hka hkb hAe hBe
        generalize na.kind = ka at *
        generalize nb.kind = kb at *
        have cT := hB5.cell (o := t) (by omega)
        have hBN := (hB5.set t (.int .i64 (i : Nat))).drew
        have FN := (F5.setC (w.heap.size + 1) t (.int .i64 (i : Nat)) (fun _ => rfl)).drew
        go_wp2_with fail
        refine wp_region_text (by kernel_rfl) (by kernel_rfl) ?_
        go_wp2_with fail
        refine ⟨by kernel_rfl, ?_⟩
        go_wp2_with fail
        go_roundg (gk - 1)
        case measure => omega
        case rel => exact ⟨i + 1, _, t + 1, by simp, by omega, by show t + 1 = (S (i + 1)).length; rw [Hnx.out, List.length_cons, ht.out], by simp, hBN, by show Wt _ (S (i + 1)); rw [Hnx.out, ht.out]; exact HWT.out.2.2.push i, FN⟩
      · obtain ⟨_, hnd⟩ := getE hg1
        have n0 := hNr i hlt 0 (by omega)
        have n1 := hNr i hlt 1 (by omega)
        have n2 := hNr i hlt 2 (by omega)
        have n3 := hNr i hlt 3 (by omega)
        have n4 := hNr i hlt 4 (by omega)
        have n5 := hNr i hlt 5 (by omega)
        have n6 := hNr i hlt 6 (by omega)
        have n7 := hNr i hlt 7 (by omega)
        have n8 := hNr i hlt 8 (by omega)
        have n9 := hNr i hlt 9 (by omega)
        have n10 := hNr i hlt 10 (by omega)
        rw [hnd] at n0 n1 n2 n3 n4 n5 n6 n7 n8 n9 n10
        simp only [ndCell, altNd, wd_zero, Nat.add_zero] at n0 n1 n2 n3 n4 n5 n6 n7 n8 n9 n10
        have Hnx : Hid _ := hnx
        clear hnx hg1 hnd
        have hpT : Hid (p = T.length + 2) := by show p = T.length + 2; rw [Hp.out, hST]; rfl
        obtain ⟨t, ht⟩ : ∃ t, Hid (t = T.length) := ⟨_, rfl⟩
        obtain rfl : p = t + 2 := by have := hpT.out; have := ht.out; omega
        have HWT : Hid (Wt fw (B :: A :: T)) := by show Wt fw (B :: A :: T); rw [← hST]; exact HW.out
        have fB : fw (t + 1) = .int .i64 (B : Nat) := by have := HWT.out.1; rw [List.length_cons, ← ht.out] at this; exact this
        have fA : fw t = .int .i64 (A : Nat) := by have := HWT.out.2.1; rw [← ht.out] at this; exact this
        have htI : (t : Int) ≤ 31 := by omega
        have htl : t + 2 ≤ i := hpl
        clear hpT hST hpI hpl
        have tp : decide (((t + 2 : Nat) : Int) < 2) = false := decide_eq_false (by omega)
        have tp' : decide ((t : Int) + 2 < 2) = false := decide_eq_false (by omega)
        have kN := (Fr.refl (fun _ => False) wr).alloc (.cells #[.int .i64 5, .int .i64 (A : Nat), .int .i64 (B : Nat), .int .i64 0, .int .i64 0, .int .i64 0, .bool false, .int .u64 0, .int .u64 0, .int .u64 0, .int .u64 0] 70)
        go_wp2_with fail
        refine (rest_plain 5 (A : Nat) (B : Nat) _).mono ?_
        rintro v w5 ⟨rfl, f5⟩
        have k5 := kN.trans f5 (fun _ _ h => h)
        have hB5 := hB.frame k5 (fun h => h)
        have hTv5 := hTvr.frame k5 (fun h => h)
        have hN5 := hNr.frame k5 (fun h => h)
        have F5 := hr.trans k5 (fun _ _ h => h.elim)
        have sz5 := k5.size
        clear q0 q1 q2 q3 q4 lTv lB zB
        have q0 := hTv5.cell (o := 0) (by omega)
        have q1 := hTv5.cell (o := 1) (by omega)
        have q2 := hTv5.cell (o := 2) (by omega)
        have q3 := hTv5.cell (o := 3) (by omega)
        have q4 := hTv5.cell (o := 4) (by omega)
        simp only [trF5] at q0 q1 q2 q3 q4
        have lTv := hTv5.lt
        have lB := hB5.lt
        have zB := hB5.frozen
        have hNb := f5.newCell (by simp)
        have hNl : wr.heap.size < w5.heap.size := by have := f5.size; rw [World.size_alloc] at this; omega
        have x0 : w5.cell? ⟨wr.heap.size, 0, none⟩ = some (.int .i64 5) := by rw [hNb 0]; rfl
        have x1 : w5.cell? ⟨wr.heap.size, 1, none⟩ = some (.int .i64 (A : Nat)) := by rw [hNb 1]; rfl
        have x2 : w5.cell? ⟨wr.heap.size, 2, none⟩ = some (.int .i64 (B : Nat)) := by rw [hNb 2]; rfl
        clear hNb
        have wA := hB5.cell (o := t) (by omega)
        have wB := hB5.cell (o := t + 1) (by omega)
        rw [fA] at wA
        rw [fB] at wB
        have s1 : (t : Int) + 2 - 1 = (t : Int) + 1 := by omega
        have s2 : (t : Int) + 2 - 2 = (t : Int) := by omega
        have cT := hB5.cell (o := t) (by omega)
        have hBN := (hB5.set t (.int .i64 (i : Nat))).drew
        have FN := (F5.setC (w.heap.size + 1) t (.int .i64 (i : Nat)) (fun _ => rfl)).drew
        go_wp2_with fail
        refine wp_region_text (by kernel_rfl) (by kernel_rfl) ?_
        go_wp2_with fail
        refine ⟨by kernel_rfl, ?_⟩
        go_wp2_with fail
        go_roundg (gk - 1)
        case measure => omega
        case rel => exact ⟨i + 1, _, t + 1, by simp, by omega, by show t + 1 = (S (i + 1)).length; rw [Hnx.out, List.length_cons, ht.out], by simp, hBN, by show Wt _ (S (i + 1)); rw [Hnx.out, ht.out]; exact HWT.out.2.2.push i, FN⟩
      · obtain ⟨_, hnd⟩ := getE hg1
        have n0 := hNr i hlt 0 (by omega)
        have n1 := hNr i hlt 1 (by omega)
        have n2 := hNr i hlt 2 (by omega)
        have n3 := hNr i hlt 3 (by omega)
        have n4 := hNr i hlt 4 (by omega)
        have n5 := hNr i hlt 5 (by omega)
        have n6 := hNr i hlt 6 (by omega)
        have n7 := hNr i hlt 7 (by omega)
        have n8 := hNr i hlt 8 (by omega)
        have n9 := hNr i hlt 9 (by omega)
        have n10 := hNr i hlt 10 (by omega)
        rw [hnd] at n0 n1 n2 n3 n4 n5 n6 n7 n8 n9 n10
        simp only [ndCell, grpNd, wd_zero, Nat.add_zero] at n0 n1 n2 n3 n4 n5 n6 n7 n8 n9 n10
        have Hnx : Hid _ := hnx
        clear hnx hg1 hnd
        have hpT : Hid (p = T.length + 1) := by show p = T.length + 1; rw [Hp.out, hST]; rfl
        obtain ⟨t, ht⟩ : ∃ t, Hid (t = T.length) := ⟨_, rfl⟩
        obtain rfl : p = t + 1 := by have := hpT.out; have := ht.out; omega
        have HWT : Hid (Wt fw (A :: T)) := by show Wt fw (A :: T); rw [← hST]; exact HW.out
        have fA : fw t = .int .i64 (A : Nat) := by have := HWT.out.1; rw [← ht.out] at this; exact this
        have htI : (t : Int) ≤ 31 := by omega
        have htl : t + 1 ≤ i := hpl
        clear hpT hST hpI hpl
        have tp : decide (((t + 1 : Nat) : Int) < 1) = false := decide_eq_false (by omega)
        have tp' : decide ((t : Int) + 1 < 1) = false := decide_eq_false (by omega)
        have tc1 : decide ((c : Int) < 1) = false := decide_eq_false (by omega)
        have tc2 : decide ((g : Int) < c) = false := decide_eq_false (by omega)
        have tc2n : decide (g < c) = false := decide_eq_false (by omega)
        have tc1n : decide (c < 1) = false := decide_eq_false (by omega)
        have hcI : (c : Int) ≤ 3 := by omega
        clear hc1 hcg
        have kN := (Fr.refl (fun _ => False) wr).alloc (.cells #[.int .i64 7, .int .i64 (A : Nat), .int .i64 (-1), .int .i64 0, .int .i64 0, .int .i64 (c : Nat), .bool false, .int .u64 0, .int .u64 0, .int .u64 0, .int .u64 0] 70)
        go_wp2_with fail
        refine (rest_grp 7 (A : Nat) (-1) (c : Nat) _).mono ?_
        rintro v w5 ⟨rfl, f5⟩
        have k5 := kN.trans f5 (fun _ _ h => h)
        have hB5 := hB.frame k5 (fun h => h)
        have hTv5 := hTvr.frame k5 (fun h => h)
        have hN5 := hNr.frame k5 (fun h => h)
        have F5 := hr.trans k5 (fun _ _ h => h.elim)
        have sz5 := k5.size
        clear q0 q1 q2 q3 q4 lTv lB zB
        have q0 := hTv5.cell (o := 0) (by omega)
        have q1 := hTv5.cell (o := 1) (by omega)
        have q2 := hTv5.cell (o := 2) (by omega)
        have q3 := hTv5.cell (o := 3) (by omega)
        have q4 := hTv5.cell (o := 4) (by omega)
        simp only [trF5] at q0 q1 q2 q3 q4
        have lTv := hTv5.lt
        have lB := hB5.lt
        have zB := hB5.frozen
        have hNb := f5.newCell (by simp)
        have hNl : wr.heap.size < w5.heap.size := by have := f5.size; rw [World.size_alloc] at this; omega
        have x0 : w5.cell? ⟨wr.heap.size, 0, none⟩ = some (.int .i64 7) := by rw [hNb 0]; rfl
        have x1 : w5.cell? ⟨wr.heap.size, 1, none⟩ = some (.int .i64 (A : Nat)) := by rw [hNb 1]; rfl
        have x2 : w5.cell? ⟨wr.heap.size, 2, none⟩ = some (.int .i64 (-1)) := by rw [hNb 2]; rfl
        have x5 : w5.cell? ⟨wr.heap.size, 5, none⟩ = some (.int .i64 (c : Nat)) := by rw [hNb 5]; rfl
        clear hNb
        have wA := hB5.cell (o := t) (by omega)
        rw [fA] at wA
        have s1 : (t : Int) + 1 - 1 = (t : Int) := by omega
        have cT := hB5.cell (o := t) (by omega)
        have hBN := hB5.set t (.int .i64 (i : Nat))
        have FN := F5.setC (w.heap.size + 1) t (.int .i64 (i : Nat)) (fun _ => rfl)
        go_wp2_with fail
        go_roundg (gk - 1)
        case measure => omega
        case rel => exact ⟨i + 1, _, t + 1, by simp, by omega, by show t + 1 = (S (i + 1)).length; rw [Hnx.out, List.length_cons, ht.out], by simp, hBN, by show Wt _ (S (i + 1)); rw [Hnx.out, ht.out]; exact HWT.out.2.push i, FN⟩
      · obtain ⟨_, hnd⟩ := getE hg1
        have n0 := hNr i hlt 0 (by omega)
        have n1 := hNr i hlt 1 (by omega)
        have n2 := hNr i hlt 2 (by omega)
        have n3 := hNr i hlt 3 (by omega)
        have n4 := hNr i hlt 4 (by omega)
        have n5 := hNr i hlt 5 (by omega)
        have n6 := hNr i hlt 6 (by omega)
        have n7 := hNr i hlt 7 (by omega)
        have n8 := hNr i hlt 8 (by omega)
        have n9 := hNr i hlt 9 (by omega)
        have n10 := hNr i hlt 10 (by omega)
        rw [hnd] at n0 n1 n2 n3 n4 n5 n6 n7 n8 n9 n10
        simp only [ndCell, repNd, wd_zero, Nat.add_zero] at n0 n1 n2 n3 n4 n5 n6 n7 n8 n9 n10
        have Hnx : Hid _ := hnx
        clear hnx hg1 hnd
        have hpT : Hid (p = T.length + 1) := by show p = T.length + 1; rw [Hp.out, hST]; rfl
        obtain ⟨t, ht⟩ : ∃ t, Hid (t = T.length) := ⟨_, rfl⟩
        obtain rfl : p = t + 1 := by have := hpT.out; have := ht.out; omega
        have HWT : Hid (Wt fw (A :: T)) := by show Wt fw (A :: T); rw [← hST]; exact HW.out
        have fA : fw t = .int .i64 (A : Nat) := by have := HWT.out.1; rw [← ht.out] at this; exact this
        have htI : (t : Int) ≤ 31 := by omega
        have htl : t + 1 ≤ i := hpl
        clear hpT hST hpI hpl
        have tp : decide (((t + 1 : Nat) : Int) < 1) = false := decide_eq_false (by omega)
        have tp' : decide ((t : Int) + 1 < 1) = false := decide_eq_false (by omega)
        have hAl : A < cl.length := by
          rcases Nat.lt_or_ge A cl.length with h | h
          · exact h
          · unfold nul at hnu
            rw [List.getD_eq_getElem?_getD, List.getElem?_eq_none (by rw [nulL_len]; omega)] at hnu
            cases hnu
        have kN := (Fr.refl (fun _ => False) wr).alloc (.cells #[.int .i64 6, .int .i64 (A : Nat), .int .i64 (-1), .int .i64 0, .int .i64 (-1), .int .i64 0, .bool lz, .int .u64 0, .int .u64 0, .int .u64 0, .int .u64 0] 70)
        go_wp2_with fail
        refine (rest_rep 6 (A : Nat) (-1) 0 (-1) lz _).mono ?_
        rintro v w5 ⟨rfl, f5⟩
        have k5 := kN.trans f5 (fun _ _ h => h)
        have hB5 := hB.frame k5 (fun h => h)
        have hTv5 := hTvr.frame k5 (fun h => h)
        have hN5 := hNr.frame k5 (fun h => h)
        have F5 := hr.trans k5 (fun _ _ h => h.elim)
        have sz5 := k5.size
        clear q0 q1 q2 q3 q4 lTv lB zB
        have q0 := hTv5.cell (o := 0) (by omega)
        have q1 := hTv5.cell (o := 1) (by omega)
        have q2 := hTv5.cell (o := 2) (by omega)
        have q3 := hTv5.cell (o := 3) (by omega)
        have q4 := hTv5.cell (o := 4) (by omega)
        simp only [trF5] at q0 q1 q2 q3 q4
        have lTv := hTv5.lt
        have lB := hB5.lt
        have zB := hB5.frozen
        have hNb := f5.newCell (by simp)
        have hNl : wr.heap.size < w5.heap.size := by have := f5.size; rw [World.size_alloc] at this; omega
        have x0 : w5.cell? ⟨wr.heap.size, 0, none⟩ = some (.int .i64 6) := by rw [hNb 0]; rfl
        have x1 : w5.cell? ⟨wr.heap.size, 1, none⟩ = some (.int .i64 (A : Nat)) := by rw [hNb 1]; rfl
        have x2 : w5.cell? ⟨wr.heap.size, 2, none⟩ = some (.int .i64 (-1)) := by rw [hNb 2]; rfl
        have x3 : w5.cell? ⟨wr.heap.size, 3, none⟩ = some (.int .i64 0) := by rw [hNb 3]; rfl
        have x4 : w5.cell? ⟨wr.heap.size, 4, none⟩ = some (.int .i64 (-1)) := by rw [hNb 4]; rfl
        clear hNb
        have wA := hB5.cell (o := t) (by omega)
        rw [fA] at wA
        have s1 : (t : Int) + 1 - 1 = (t : Int) := by omega
        have hnc := nullG_any hwf ((cl.length - 1 : Nat) : Int) (g : Nat) A hAl _ bk cp hN5
        rw [hnu] at hnc
        have Hnc : Hid _ := hnc
        clear hnc hnu
        go_wp2_with fail
        refine Calls.mono Hnc.out ?_
        rintro v w6 ⟨rfl, f6⟩
        have hB6 := hB5.frame f6 (fun h => h)
        have F6 := F5.trans f6 (fun _ _ h => h.elim)
        have lB6 := hB6.lt
        have zB6 := hB6.frozen
        have sz6 := f6.size
        have cT := hB6.cell (o := t) (by omega)
        have hBN := hB6.set t (.int .i64 (i : Nat))
        have FN := F6.setC (w.heap.size + 1) t (.int .i64 (i : Nat)) (fun _ => rfl)
        go_wp2_with fail
        go_roundg (gk - 1)
        case measure => omega
        case rel => exact ⟨i + 1, _, t + 1, by simp, by omega, by show t + 1 = (S (i + 1)).length; rw [Hnx.out, List.length_cons, ht.out], by simp, hBN, by show Wt _ (S (i + 1)); rw [Hnx.out, ht.out]; exact HWT.out.2.push i, FN⟩
    · have tI : decide ((i : Int) < cl.length) = false := decide_eq_false (by omega)
      obtain rfl : p = 1 := by
        have e := HSn.out
        have := Hp.out
        rw [show i = cl.length by omega, e] at this
        simpa using this
      go_wp2_with fail
      go_ret
      exact ⟨rfl, FR⟩
end Go.Proofs.Qxb6500286a
