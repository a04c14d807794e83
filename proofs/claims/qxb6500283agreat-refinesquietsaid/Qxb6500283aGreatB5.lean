/- The real parser's open. -/
import Derived.Test.Qxb6500283aGreatB4
namespace Go.Proofs.Qxb6500283aGreat
open Go Go.RowKit

section
variable {f f' : Nat → Value} {p : ByteArray} {iv : Int} {ns : List Nd} {g : Nat} {t : Frm} {r : List Frm} {e q : Int}
theorem Lay.setG (h : Lay f p iv ns g t r e q) (hl : ns.length ≤ 24) (hd : r.length ≤ 5) (g' : Nat) : Lay (upd f 322 (.int .i64 (g' : Nat))) p iv ns g' t r e q :=
  ⟨by rw [upd_other _ _ _ _ (by omega)]; exact h.p0, by rw [upd_other _ _ _ _ (by omega)]; exact h.i1, fun k hk j hj => by rw [upd_other _ _ _ _ (by omega)]; exact h.nd k hk j hj, fun k hk => by rw [upd_other _ _ _ _ (by omega)]; exact h.nl k hk, by rw [upd_other _ _ _ _ (by omega)]; exact h.n,
   h.st.same (fun o h1 h2 => upd_other _ _ _ _ (by simp at h2; omega)), by rw [upd_other _ _ _ _ (by omega)]; exact h.dp, upd_same _ _ _, by rw [upd_other _ _ _ _ (by omega)]; exact h.er, by rw [upd_other _ _ _ _ (by omega)]; exact h.ps⟩
/-- A frame more. -/
theorem Lay.push {t' : Frm} (h : Lay f p iv ns g t r e q) (hl : ns.length ≤ 24) (hd : r.length + 1 ≤ 5) (h1 : ∀ j, j < 5 → f' (291 + (r.length + 1) * 5 + j) = frCell t' j) (h2 : f' 321 = .int .i64 ((r.length + 1 : Nat) : Int)) (hs : ∀ o, o < 325 → o ≠ 321 → (o < 291 + (r.length + 1) * 5 ∨ 296 + (r.length + 1) * 5 ≤ o) → f' o = f o) : Lay f' p iv ns g t' (t :: r) e q :=
  ⟨by rw [hs _ (by omega) (by omega) (by omega)]; exact h.p0, by rw [hs _ (by omega) (by omega) (by omega)]; exact h.i1, fun k hk j hj => by rw [hs _ (by omega) (by omega) (by omega)]; exact h.nd k hk j hj, fun k hk => by rw [hs _ (by omega) (by omega) (by omega)]; exact h.nl k hk, by rw [hs _ (by omega) (by omega) (by omega)]; exact h.n,
   ⟨h1, h.st.same (fun o h1 h2 => by simp at h2; exact hs _ (by omega) (by omega) (by omega))⟩, by rw [h2]; simp, by rw [hs _ (by omega) (by omega) (by omega)]; exact h.gr, by rw [hs _ (by omega) (by omega) (by omega)]; exact h.er, by rw [hs _ (by omega) (by omega) (by omega)]; exact h.ps⟩
/-- A frame less. -/
theorem Lay.pop {s : Frm} (h : Lay f p iv ns g t (s :: r) e q) (hl : ns.length ≤ 24) (hd : r.length + 1 ≤ 5) : Lay (upd f 321 (.int .i64 (r.length : Nat))) p iv ns g s r e q :=
  ⟨by rw [upd_other _ _ _ _ (by omega)]; exact h.p0, by rw [upd_other _ _ _ _ (by omega)]; exact h.i1, fun k hk j hj => by rw [upd_other _ _ _ _ (by omega)]; exact h.nd k hk j hj, fun k hk => by rw [upd_other _ _ _ _ (by omega)]; exact h.nl k hk, by rw [upd_other _ _ _ _ (by omega)]; exact h.n,
   h.st.2.same (fun o h1 h2 => upd_other _ _ _ _ (by simp at h2; omega)), upd_same _ _ _, by rw [upd_other _ _ _ _ (by omega)]; exact h.gr, by rw [upd_other _ _ _ _ (by omega)]; exact h.er, by rw [upd_other _ _ _ _ (by omega)]; exact h.ps⟩
end
def upd5 (f : Nat → Value) (b : Nat) (c pl : Nat) : Nat → Value := upd (upd (upd (upd (upd f b (.int .i64 (-1))) (b + 1) (.int .i64 (-1))) (b + 2) (.int .i64 (-1))) (b + 3) (.int .i64 (c : Nat))) (b + 4) (.int .i64 (pl : Nat))
theorem upd5_in (f : Nat → Value) (b c pl : Nat) : ∀ j, j < 5 → upd5 f b c pl (b + j) = frCell ⟨none, none, none, c, pl⟩ j := by
  intro j hj
  rcases lt5 hj with rfl | rfl | rfl | rfl | rfl <;> simp [upd5, upd, frCell, oi]
theorem upd5_out (f : Nat → Value) (b c pl o : Nat) (h : o < b ∨ b + 5 ≤ o) : upd5 f b c pl o = f o := by
  unfold upd5
  iterate 5 rw [upd_other _ _ _ _ (by omega)]
theorem openS_free {p : ByteArray} {s : Sg} (h : freeB p s.i = true) : openS p s = some (0, ⟨s.i + 3, s.ns, s.g⟩) := by unfold openS; rw [if_pos h]
theorem openS_full {p : ByteArray} {s : Sg} (h : freeB p s.i = false) (h3 : 3 ≤ s.g) : openS p s = none := by unfold openS; rw [if_neg (by rw [h]; simp), if_pos h3]
theorem openS_num {p : ByteArray} {s : Sg} (h : freeB p s.i = false) (h3 : s.g < 3) : openS p s = some (s.g + 1, ⟨s.i + 1, s.ns, s.g + 1⟩) := by unfold openS; rw [if_neg (by rw [h]; simp), if_neg (by omega)]
set_option maxRecDepth 100000 in
set_option maxHeartbeats 8000000 in
theorem openR_any {w : World} {x : Nat} {p : ByteArray} {T : Rs} (hM : RMem w x p T) (hT : RsOk p T) (hsz : p.size ≤ 129) (hi : T.s.i < p.size) : Calls Tryz.prog 140 #[.pointer (some ⟨x, 0, none⟩)] w fun e w' => e = .returned (.tuple #[]) ∧ RPost w x p (openR p T) w' := by
  obtain ⟨f, q, hb, hL⟩ := hM
  obtain ⟨⟨hwf, hlen, hg3, hiz⟩, _, _, hd⟩ := hT
  obtain ⟨⟨i, ns, g⟩, t, r⟩ := T
  simp only at hL hwf hlen hg3 hiz hd hi
  have cd := hb.cell (o := 321) (by omega)
  rw [hL.dp] at cd
  have c0 := hb.cell (o := 0) (by omega)
  rw [hL.p0] at c0
  have c1 := hb.cell (o := 1) (by omega)
  rw [hL.i1] at c1
  have cg := hb.cell (o := 322) (by omega)
  rw [hL.gr] at cg
  have z := hb.frozen
  go_enter Tryz.func140, Tryz.ntmps140
  by_cases hdeep : 5 ≤ r.length
  · have hdeep' : (5 : Int) ≤ r.length := by omega
    go_wp2_with fail
    refine (failR_any hb 6 i).mono ?_
    rintro e w1 ⟨rfl, hb1, f1⟩
    go_wp2_with fail
    refine bodyPost_ret (v := .tuple #[]) (by simp [results, Tryz.results140, go_sem]) rfl ⟨rfl, f1, ?_⟩
    rw [show openR p _ = .error (6, i) by unfold openR; rw [if_pos hdeep]]
    exact ⟨_, i, ns, g, t, r, hb1, hL.setE hlen hd 6 i, hwf, hlen, hg3, hd⟩
  · have hnd : r.length < 5 := by omega
    clear hdeep
    have m0 := hb.cell (o := 291 + (r.length + 1) * 5) (by omega)
    have m1 := hb.cell (o := 291 + (r.length + 1) * 5 + 1) (by omega)
    have m2 := hb.cell (o := 291 + (r.length + 1) * 5 + 2) (by omega)
    have m3 := hb.cell (o := 291 + (r.length + 1) * 5 + 3) (by omega)
    have m4 := hb.cell (o := 291 + (r.length + 1) * 5 + 4) (by omega)
    have hop : ∀ c s1, openS p ⟨i, ns, g⟩ = some (c, s1) → openR p ⟨⟨i, ns, g⟩, t, r⟩ = .ok ⟨s1, ⟨none, none, none, c, i⟩, t :: r⟩ := fun c s1 h => by
      unfold openR; rw [if_neg (by simp only; omega)]; simp only; rw [h]
    by_cases h2 : i + 2 < p.size
    · have Hb1 : Hid _ := bt_at p (i + 1) (by omega)
      have Hb2 : Hid _ := bt_at p (i + 2) h2
      by_cases h63 : bt p (i + 1) = 63
      · have t63 : (p[i + 1].toNat == 63) = true := by have := Hb1.out; simp; omega
        have t63' : ((p[i + 1].toNat : Int) == 63) = true := by have := Hb1.out; simp; omega
        by_cases h58 : bt p (i + 2) = 58
        · have t58 : (p[i + 2].toNat == 58) = true := by have := Hb2.out; simp; omega
          have t58' : ((p[i + 2].toNat : Int) == 58) = true := by have := Hb2.out; simp; omega
          have hfree : freeB p i = true := by simp [freeB, h2, h63, h58]
          have HE : Hid _ := hop _ _ (openS_free (s := ⟨i, ns, g⟩) hfree)
          clear hfree h63 h58
          have hbF := ((((((((hb.set 1 (.int .i64 ((i : Int) + 1))).set 1 (.int .i64 ((i : Int) + 3))).set 321 (.int .i64 ((r.length : Int) + 1))).set (291 + (r.length + 1) * 5) (.int .i64 (-1))).set (291 + (r.length + 1) * 5 + 1) (.int .i64 (-1))).set (291 + (r.length + 1) * 5 + 2) (.int .i64 (-1))).set (291 + (r.length + 1) * 5 + 3) (.int .i64 0)).set (291 + (r.length + 1) * 5 + 4) (.int .i64 (i : Nat))).drew
          have hLF := (hL.setI ((i : Int) + 1)).setI ((i : Int) + 3)
          have FF := (((((((((Fr.refl (fun b => b = x) w).setC x 1 (.int .i64 ((i : Int) + 1)) (fun _ => rfl)).setC x 1 (.int .i64 ((i : Int) + 3)) (fun _ => rfl)).setC x 321 (.int .i64 ((r.length : Int) + 1)) (fun _ => rfl)).setC x (291 + (r.length + 1) * 5) (.int .i64 (-1)) (fun _ => rfl)).setC x (291 + (r.length + 1) * 5 + 1) (.int .i64 (-1)) (fun _ => rfl)).setC x (291 + (r.length + 1) * 5 + 2) (.int .i64 (-1)) (fun _ => rfl)).setC x (291 + (r.length + 1) * 5 + 3) (.int .i64 0) (fun _ => rfl)).setC x (291 + (r.length + 1) * 5 + 4) (.int .i64 (i : Nat)) (fun _ => rfl)).drew
          go_wp2_with fail
          refine wp_region_text (by kernel_rfl) (by kernel_rfl) ?_
          go_wp2_with fail
          refine ⟨by kernel_rfl, ?_⟩
          go_wp2_with fail
          go_end0
          refine ⟨rfl, FF, ?_⟩
          rw [HE.out]
          refine ⟨_, q, hbF, hLF.push (f' := upd5 (upd _ 321 (.int .i64 ((r.length : Int) + 1))) (291 + (r.length + 1) * 5) 0 i) hlen (by omega) (fun j hj => upd5_in _ _ _ _ j hj) ?_ (fun o h1 h2 h3 => ?_)⟩
          · rw [upd5_out _ _ _ _ _ (by omega), upd_same]; rfl
          · rw [upd5_out _ _ _ _ _ (by omega), upd_other _ _ _ _ h2] <;> rfl
        · have t58 : (p[i + 2].toNat == 58) = false := by have := Hb2.out; simp; omega
          have t58' : ((p[i + 2].toNat : Int) == 58) = false := by have := Hb2.out; simp; omega
          have hfree : freeB p i = false := by simp [freeB, h2, h63, h58]
          clear h63 h58
          by_cases hg : 3 ≤ g
          · have hg' : (3 : Int) ≤ g := by omega
            go_wp2_with fail
            refine (failR_any (hb.set 1 (.int .i64 ((i : Int) + 1))) 7 i).mono ?_
            rintro e w1 ⟨rfl, hb1, f1⟩
            go_wp2_with fail
            refine bodyPost_ret (v := .tuple #[]) (by simp [results, Tryz.results140, go_sem]) rfl ⟨rfl, ((Fr.refl (fun b => b = x) w).setC x 1 (.int .i64 ((i : Int) + 1)) (fun _ => rfl)).trans f1 (fun _ _ h => h), ?_⟩
            rw [show openR p _ = .error (7, i) by unfold openR; rw [if_neg (by simp only; omega)]; simp only; rw [openS_full (s := ⟨i, ns, g⟩) hfree hg]]
            exact ⟨_, _, ns, g, t, r, hb1, (hL.setI ((i : Int) + 1)).setE hlen hd 7 i, hwf, hlen, hg3, hd⟩
          · have HE : Hid _ := hop _ _ (openS_num (s := ⟨i, ns, g⟩) hfree (by simp only; omega))
            clear hfree
            have hg' : (g : Int) < 3 := by omega
            have hbF := ((((((((hb.set 1 (.int .i64 ((i : Int) + 1))).set 322 (.int .i64 ((g : Int) + 1))).set 321 (.int .i64 ((r.length : Int) + 1))).set (291 + (r.length + 1) * 5) (.int .i64 (-1))).set (291 + (r.length + 1) * 5 + 1) (.int .i64 (-1))).set (291 + (r.length + 1) * 5 + 2) (.int .i64 (-1))).set (291 + (r.length + 1) * 5 + 3) (.int .i64 ((g : Int) + 1))).set (291 + (r.length + 1) * 5 + 4) (.int .i64 (i : Nat))).drew
            have hLF := (hL.setI ((i : Int) + 1)).setG hlen hd (g + 1)
            have FF := (((((((((Fr.refl (fun b => b = x) w).setC x 1 (.int .i64 ((i : Int) + 1)) (fun _ => rfl)).setC x 322 (.int .i64 ((g : Int) + 1)) (fun _ => rfl)).setC x 321 (.int .i64 ((r.length : Int) + 1)) (fun _ => rfl)).setC x (291 + (r.length + 1) * 5) (.int .i64 (-1)) (fun _ => rfl)).setC x (291 + (r.length + 1) * 5 + 1) (.int .i64 (-1)) (fun _ => rfl)).setC x (291 + (r.length + 1) * 5 + 2) (.int .i64 (-1)) (fun _ => rfl)).setC x (291 + (r.length + 1) * 5 + 3) (.int .i64 ((g : Int) + 1)) (fun _ => rfl)).setC x (291 + (r.length + 1) * 5 + 4) (.int .i64 (i : Nat)) (fun _ => rfl)).drew
            go_wp2_with fail
            refine wp_region_text (by kernel_rfl) (by kernel_rfl) ?_
            go_wp2_with fail
            refine ⟨by kernel_rfl, ?_⟩
            go_wp2_with fail
            go_end0
            refine ⟨rfl, FF, ?_⟩
            rw [HE.out]
            refine ⟨_, q, hbF, hLF.push (f' := upd5 (upd _ 321 (.int .i64 ((r.length : Int) + 1))) (291 + (r.length + 1) * 5) (g + 1) i) hlen (by omega) (fun j hj => upd5_in _ _ _ _ j hj) ?_ (fun o h1 h2 h3 => ?_)⟩
            · rw [upd5_out _ _ _ _ _ (by omega), upd_same]; rfl
            · rw [upd5_out _ _ _ _ _ (by omega), upd_other _ _ _ _ h2] <;> rfl
      · have t63 : (p[i + 1].toNat == 63) = false := by have := Hb1.out; simp; omega
        have t63' : ((p[i + 1].toNat : Int) == 63) = false := by have := Hb1.out; simp; omega
        have hfree : freeB p i = false := by simp [freeB, h63]
        clear h63
        by_cases hg : 3 ≤ g
        · have hg' : (3 : Int) ≤ g := by omega
          go_wp2_with fail
          refine (failR_any (hb.set 1 (.int .i64 ((i : Int) + 1))) 7 i).mono ?_
          rintro e w1 ⟨rfl, hb1, f1⟩
          go_wp2_with fail
          refine bodyPost_ret (v := .tuple #[]) (by simp [results, Tryz.results140, go_sem]) rfl ⟨rfl, ((Fr.refl (fun b => b = x) w).setC x 1 (.int .i64 ((i : Int) + 1)) (fun _ => rfl)).trans f1 (fun _ _ h => h), ?_⟩
          rw [show openR p _ = .error (7, i) by unfold openR; rw [if_neg (by simp only; omega)]; simp only; rw [openS_full (s := ⟨i, ns, g⟩) hfree hg]]
          exact ⟨_, _, ns, g, t, r, hb1, (hL.setI ((i : Int) + 1)).setE hlen hd 7 i, hwf, hlen, hg3, hd⟩
        · have HE : Hid _ := hop _ _ (openS_num (s := ⟨i, ns, g⟩) hfree (by simp only; omega))
          clear hfree
          have hg' : (g : Int) < 3 := by omega
          have hbF := ((((((((hb.set 1 (.int .i64 ((i : Int) + 1))).set 322 (.int .i64 ((g : Int) + 1))).set 321 (.int .i64 ((r.length : Int) + 1))).set (291 + (r.length + 1) * 5) (.int .i64 (-1))).set (291 + (r.length + 1) * 5 + 1) (.int .i64 (-1))).set (291 + (r.length + 1) * 5 + 2) (.int .i64 (-1))).set (291 + (r.length + 1) * 5 + 3) (.int .i64 ((g : Int) + 1))).set (291 + (r.length + 1) * 5 + 4) (.int .i64 (i : Nat))).drew
          have hLF := (hL.setI ((i : Int) + 1)).setG hlen hd (g + 1)
          have FF := (((((((((Fr.refl (fun b => b = x) w).setC x 1 (.int .i64 ((i : Int) + 1)) (fun _ => rfl)).setC x 322 (.int .i64 ((g : Int) + 1)) (fun _ => rfl)).setC x 321 (.int .i64 ((r.length : Int) + 1)) (fun _ => rfl)).setC x (291 + (r.length + 1) * 5) (.int .i64 (-1)) (fun _ => rfl)).setC x (291 + (r.length + 1) * 5 + 1) (.int .i64 (-1)) (fun _ => rfl)).setC x (291 + (r.length + 1) * 5 + 2) (.int .i64 (-1)) (fun _ => rfl)).setC x (291 + (r.length + 1) * 5 + 3) (.int .i64 ((g : Int) + 1)) (fun _ => rfl)).setC x (291 + (r.length + 1) * 5 + 4) (.int .i64 (i : Nat)) (fun _ => rfl)).drew
          go_wp2_with fail
          refine wp_region_text (by kernel_rfl) (by kernel_rfl) ?_
          go_wp2_with fail
          refine ⟨by kernel_rfl, ?_⟩
          go_wp2_with fail
          go_end0
          refine ⟨rfl, FF, ?_⟩
          rw [HE.out]
          refine ⟨_, q, hbF, hLF.push (f' := upd5 (upd _ 321 (.int .i64 ((r.length : Int) + 1))) (291 + (r.length + 1) * 5) (g + 1) i) hlen (by omega) (fun j hj => upd5_in _ _ _ _ j hj) ?_ (fun o h1 h2 h3 => ?_)⟩
          · rw [upd5_out _ _ _ _ _ (by omega), upd_same]; rfl
          · rw [upd5_out _ _ _ _ _ (by omega), upd_other _ _ _ _ h2] <;> rfl
    · have hfree : freeB p i = false := by simp [freeB, h2]
      by_cases hg : 3 ≤ g
      · have hg' : (3 : Int) ≤ g := by omega
        go_wp2_with fail
        refine (failR_any (hb.set 1 (.int .i64 ((i : Int) + 1))) 7 i).mono ?_
        rintro e w1 ⟨rfl, hb1, f1⟩
        go_wp2_with fail
        refine bodyPost_ret (v := .tuple #[]) (by simp [results, Tryz.results140, go_sem]) rfl ⟨rfl, ((Fr.refl (fun b => b = x) w).setC x 1 (.int .i64 ((i : Int) + 1)) (fun _ => rfl)).trans f1 (fun _ _ h => h), ?_⟩
        rw [show openR p _ = .error (7, i) by unfold openR; rw [if_neg (by simp only; omega)]; simp only; rw [openS_full (s := ⟨i, ns, g⟩) hfree hg]]
        exact ⟨_, _, ns, g, t, r, hb1, (hL.setI ((i : Int) + 1)).setE hlen hd 7 i, hwf, hlen, hg3, hd⟩
      · have HE : Hid _ := hop _ _ (openS_num (s := ⟨i, ns, g⟩) hfree (by simp only; omega))
        clear hfree
        have hg' : (g : Int) < 3 := by omega
        have hbF := ((((((((hb.set 1 (.int .i64 ((i : Int) + 1))).set 322 (.int .i64 ((g : Int) + 1))).set 321 (.int .i64 ((r.length : Int) + 1))).set (291 + (r.length + 1) * 5) (.int .i64 (-1))).set (291 + (r.length + 1) * 5 + 1) (.int .i64 (-1))).set (291 + (r.length + 1) * 5 + 2) (.int .i64 (-1))).set (291 + (r.length + 1) * 5 + 3) (.int .i64 ((g : Int) + 1))).set (291 + (r.length + 1) * 5 + 4) (.int .i64 (i : Nat))).drew
        have hLF := (hL.setI ((i : Int) + 1)).setG hlen hd (g + 1)
        have FF := (((((((((Fr.refl (fun b => b = x) w).setC x 1 (.int .i64 ((i : Int) + 1)) (fun _ => rfl)).setC x 322 (.int .i64 ((g : Int) + 1)) (fun _ => rfl)).setC x 321 (.int .i64 ((r.length : Int) + 1)) (fun _ => rfl)).setC x (291 + (r.length + 1) * 5) (.int .i64 (-1)) (fun _ => rfl)).setC x (291 + (r.length + 1) * 5 + 1) (.int .i64 (-1)) (fun _ => rfl)).setC x (291 + (r.length + 1) * 5 + 2) (.int .i64 (-1)) (fun _ => rfl)).setC x (291 + (r.length + 1) * 5 + 3) (.int .i64 ((g : Int) + 1)) (fun _ => rfl)).setC x (291 + (r.length + 1) * 5 + 4) (.int .i64 (i : Nat)) (fun _ => rfl)).drew
        go_wp2_with fail
        refine wp_region_text (by kernel_rfl) (by kernel_rfl) ?_
        go_wp2_with fail
        refine ⟨by kernel_rfl, ?_⟩
        go_wp2_with fail
        go_end0
        refine ⟨rfl, FF, ?_⟩
        rw [HE.out]
        refine ⟨_, q, hbF, hLF.push (f' := upd5 (upd _ 321 (.int .i64 ((r.length : Int) + 1))) (291 + (r.length + 1) * 5) (g + 1) i) hlen (by omega) (fun j hj => upd5_in _ _ _ _ j hj) ?_ (fun o h1 h2 h3 => ?_)⟩
        · rw [upd5_out _ _ _ _ _ (by omega), upd_same]; rfl
        · rw [upd5_out _ _ _ _ _ (by omega), upd_other _ _ _ _ h2] <;> rfl
end Go.Proofs.Qxb6500283aGreat
