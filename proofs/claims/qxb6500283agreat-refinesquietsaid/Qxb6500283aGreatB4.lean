/- The real parser's fold, leaf. -/
import Derived.Test.Qxb6500283aGreatB3
namespace Go.Proofs.Qxb6500283aGreat
open Go Go.RowKit

theorem emptyN_none {s : Sg} : emptyN none s = addS s (leafNd 0 noP) := rfl
theorem emptyN_some {s : Sg} {c : Nat} : emptyN (some c) s = .ok (c, s) := rfl
set_option maxRecDepth 100000 in
set_option maxHeartbeats 8000000 in
theorem foldR_any {w : World} {x : Nat} {p : ByteArray} {T : Rs} (hM : RMem w x p T) (hT : RsOk p T) : Calls Tryz.prog 109 #[.pointer (some ⟨x, 0, none⟩)] w fun e w' => e = .returned (.tuple #[]) ∧ RPost w x p (foldR T) w' := by
  obtain ⟨f, q, hb, hL⟩ := hM
  obtain ⟨⟨hwf, hlen, hg3, hiz⟩, ⟨hfa, hfc, hft, hfn, hfp⟩, hfr, hd⟩ := hT
  obtain ⟨⟨i, ns, g⟩, ⟨al, ct, at', num, pl⟩, r⟩ := T
  simp only at hL hwf hlen hg3 hiz hfa hfc hft hfn hfp hfr hd
  have cd := hb.cell (o := 321) (by omega)
  rw [hL.dp] at cd
  have c1 := hb.cell (o := 291 + r.length * 5 + 1) (by omega)
  rw [hL.st.1 1 (by omega)] at c1
  have c0 := hb.cell (o := 291 + r.length * 5) (by omega)
  have st0 := hL.st.1 0 (by omega)
  rw [Nat.add_zero] at st0
  rw [st0] at c0
  simp only [frCell] at c0 c1
  have z := hb.frozen
  go_enter Tryz.func109, Tryz.ntmps109
  cases ct with
  | none =>
    simp only [oi] at c1
    by_cases hfull : 24 ≤ ns.length
    · go_wp2_with fail
      rw [← ndV_emp]
      refine (addR_any (leafNd 0 noP) hb hL hlen hd (okNd.leaf (.inl rfl))).mono ?_
      intro e w2 hA
      obtain ⟨rfl, f2, f', hb2, hL2⟩ := hA.full hfull
      go_wp2_with fail
      refine bodyPost_ret (v := .tuple #[]) (by simp [results, Tryz.results109, go_sem]) rfl ⟨rfl, f2, ?_⟩
      rw [show foldR _ = .error (8, i) by simp only [foldR, emptyN]; rw [addS_full hfull]]
      exact ⟨f', i, ns, g, _, r, hb2, hL2, hwf, hlen, hg3, hd⟩
    · have hnf : ns.length < 24 := by omega
      clear hfull
      have Hnf : Hid _ := hnf
      go_wp2_with fail
      rw [← ndV_emp]
      refine (addR_any (leafNd 0 noP) hb hL hlen hd (okNd.leaf (.inl rfl))).mono ?_
      intro e w2 hA
      obtain ⟨rfl, f2, f', hb2, hL2⟩ := hA.room hnf
      have hwf2 : WF (ns ++ [leafNd 0 noP]) := hwf.add (okNd.leaf (.inl rfl))
      have hlen2 : (ns ++ [leafNd 0 noP]).length ≤ 24 := by simp; omega
      have hcl : ns.length < (ns ++ [leafNd 0 noP]).length := by simp
      have hlt2 : ∀ k, al = some k → k < (ns ++ [leafNd 0 noP]).length := fun k e => by have := hfa k e; simp; omega
      have hE0 : emptyN none ⟨i, ns, g⟩ = .ok (ns.length, ⟨i, ns ++ [leafNd 0 noP], g⟩) := by rw [emptyN_none, addS_room hnf]
      generalize ns ++ [leafNd 0 noP] = N at *
      generalize ns.length = c at *
      clear c0 c1 cd z st0 hnf
      have cd := hb2.cell (o := 321) (by omega)
      rw [hL2.dp] at cd
      have c1 := hb2.cell (o := 291 + r.length * 5 + 1) (by omega)
      have c0 := hb2.cell (o := 291 + r.length * 5) (by omega)
      have st0 := hL2.st.1 0 (by omega)
      rw [Nat.add_zero] at st0
      rw [st0] at c0
      simp only [frCell] at c0
      have z := hb2.frozen
      have hb3 := hb2.set (291 + r.length * 5 + 1) (.int .i64 (-1))
      have hL3 := hL2.cat hlen2 hd none
      have F3 := f2.setC x (291 + r.length * 5 + 1) (.int .i64 (-1)) (fun _ => rfl)
      cases al with
      | none =>
        simp only [oi] at c0
        go_wp2_with fail
        refine bodyPost_ret (v := .tuple #[]) (by simp [results, Tryz.results109, go_sem]) rfl ⟨rfl, F3.setC x (291 + r.length * 5) _ (fun _ => rfl), ?_⟩
        rw [show foldR _ = .ok ⟨⟨i, N, g⟩, ⟨some c, none, at', num, pl⟩, r⟩ by simp only [foldR]; rw [hE0]; rfl]
        exact ⟨_, q, hb3.set (291 + r.length * 5) _, hL3.alt hlen2 hd (some c)⟩
      | some l =>
        simp only [oi] at c0
        have hok : okNd N.length (altNd l c) := okNd.alt (hlt2 l rfl) hcl
        by_cases hfull2 : 24 ≤ N.length
        · go_wp2_with fail
          go_region_with (rw [← ndV_alt]; refine (addR_any (altNd l c) hb3.drew hL3 hlen2 hd hok).mono ?_; intro e w4 hA; obtain ⟨rfl, f4, f4', hb4, hL4⟩ := hA.full hfull2; have b1 := hb4.cell (o := 291 + r.length * 5) (by omega); have z4 := hb4.frozen)
          all_goals
            go_end0
            refine ⟨rfl, (F3.drew.trans f4 (fun _ _ h => h)).setC x (291 + r.length * 5) _ (fun _ => rfl), ?_⟩
            rw [show foldR _ = .error (8, i) by simp only [foldR]; rw [hE0]; simp only [altN]; rw [addS_full hfull2]]
            exact ⟨_, i, N, g, _, r, hb4.set (291 + r.length * 5) _, hL4.alt hlen2 hd none, hwf2, hlen2, hg3, hd⟩
        · have hnf2 : N.length < 24 := by omega
          clear hfull2
          go_wp2_with fail
          go_region_with (rw [← ndV_alt]; refine (addR_any (altNd l c) hb3.drew hL3 hlen2 hd hok).mono ?_; intro e w4 hA; obtain ⟨rfl, f4, f4', hb4, hL4⟩ := hA.room hnf2; have b1 := hb4.cell (o := 291 + r.length * 5) (by omega); have z4 := hb4.frozen)
          all_goals
            go_end0
            refine ⟨rfl, (F3.drew.trans f4 (fun _ _ h => h)).setC x (291 + r.length * 5) _ (fun _ => rfl), ?_⟩
            rw [show foldR _ = .ok ⟨⟨i, N ++ [altNd l c], g⟩, ⟨some N.length, none, at', num, pl⟩, r⟩ by simp only [foldR]; rw [hE0]; simp only [altN]; rw [addS_room hnf2]]
            exact ⟨_, q, hb4.set (291 + r.length * 5) _, hL4.alt (by simp; omega) hd (some N.length)⟩
  | some c =>
    simp only [oi] at c1
    have hcl := hfc c rfl
    have hlt2 := hfa
    have hE0 : emptyN (some c) ⟨i, ns, g⟩ = .ok (c, ⟨i, ns, g⟩) := rfl
    have hb2 := hb
    have hL2 := hL
    have hwf2 := hwf
    have hlen2 := hlen
    have f2 := Fr.refl (fun b => b = x) w
    have hb3 := hb2.set (291 + r.length * 5 + 1) (.int .i64 (-1))
    have hL3 := hL2.cat hlen2 hd none
    have F3 := f2.setC x (291 + r.length * 5 + 1) (.int .i64 (-1)) (fun _ => rfl)
    cases al with
    | none =>
      simp only [oi] at c0
      go_wp2_with fail
      refine bodyPost_ret (v := .tuple #[]) (by simp [results, Tryz.results109, go_sem]) rfl ⟨rfl, F3.setC x (291 + r.length * 5) _ (fun _ => rfl), ?_⟩
      rw [show foldR _ = .ok ⟨⟨i, ns, g⟩, ⟨some c, none, at', num, pl⟩, r⟩ by simp only [foldR]; rw [hE0]; rfl]
      exact ⟨_, q, hb3.set (291 + r.length * 5) _, hL3.alt hlen2 hd (some c)⟩
    | some l =>
      simp only [oi] at c0
      have hok : okNd ns.length (altNd l c) := okNd.alt (hlt2 l rfl) hcl
      by_cases hfull2 : 24 ≤ ns.length
      · go_wp2_with fail
        go_region_with (rw [← ndV_alt]; refine (addR_any (altNd l c) hb3.drew hL3 hlen2 hd hok).mono ?_; intro e w4 hA; obtain ⟨rfl, f4, f4', hb4, hL4⟩ := hA.full hfull2; have b1 := hb4.cell (o := 291 + r.length * 5) (by omega); have z4 := hb4.frozen)
        all_goals
          go_end0
          refine ⟨rfl, (F3.drew.trans f4 (fun _ _ h => h)).setC x (291 + r.length * 5) _ (fun _ => rfl), ?_⟩
          rw [show foldR _ = .error (8, i) by simp only [foldR]; rw [hE0]; simp only [altN]; rw [addS_full hfull2]]
          exact ⟨_, i, ns, g, _, r, hb4.set (291 + r.length * 5) _, hL4.alt hlen2 hd none, hwf2, hlen2, hg3, hd⟩
      · have hnf2 : ns.length < 24 := by omega
        clear hfull2
        go_wp2_with fail
        go_region_with (rw [← ndV_alt]; refine (addR_any (altNd l c) hb3.drew hL3 hlen2 hd hok).mono ?_; intro e w4 hA; obtain ⟨rfl, f4, f4', hb4, hL4⟩ := hA.room hnf2; have b1 := hb4.cell (o := 291 + r.length * 5) (by omega); have z4 := hb4.frozen)
        all_goals
          go_end0
          refine ⟨rfl, (F3.drew.trans f4 (fun _ _ h => h)).setC x (291 + r.length * 5) _ (fun _ => rfl), ?_⟩
          rw [show foldR _ = .ok ⟨⟨i, ns ++ [altNd l c], g⟩, ⟨some ns.length, none, at', num, pl⟩, r⟩ by simp only [foldR]; rw [hE0]; simp only [altN]; rw [addS_room hnf2]]
          exact ⟨_, q, hb4.set (291 + r.length * 5) _, hL4.alt (by simp; omega) hd (some ns.length)⟩
theorem ndV_leaf (k : Int) (P : BSet) : ndV (leafNd k P) = .agg #[.int .i64 k, .int .i64 (-1), .int .i64 (-1), .int .i64 0, .int .i64 0, .int .i64 0, .bool false, .int .u64 (wd P 0 : Nat), .int .u64 (wd P 1 : Nat), .int .u64 (wd P 2 : Nat), .int .u64 (wd P 3 : Nat)] := rfl
set_option maxRecDepth 100000 in
set_option maxHeartbeats 8000000 in
theorem leafR_any {w : World} {x : Nat} {p : ByteArray} {T : Rs} (hM : RMem w x p T) (hT : RsOk p T) (k : Int) (hk : k = 0 ∨ k = 1 ∨ k = 2 ∨ k = 3) (P : BSet) : Calls Tryz.prog 143 #[.pointer (some ⟨x, 0, none⟩), .int .i64 k, setV P] w fun e w' => e = .returned (.tuple #[]) ∧ RPost w x p (setAtom T (addS T.s (leafNd k P))) w' := by
  obtain ⟨f, q, hb, hL⟩ := hM
  obtain ⟨⟨hwf, hlen, hg3, hiz⟩, ⟨hfa, hfc, hft, hfn, hfp⟩, hfr, hd⟩ := hT
  obtain ⟨⟨i, ns, g⟩, ⟨al, ct, at', num, pl⟩, r⟩ := T
  simp only at hL hwf hlen hg3 hiz hfa hfc hft hfn hfp hfr hd
  have cd := hb.cell (o := 321) (by omega)
  rw [hL.dp] at cd
  have z := hb.frozen
  have hxl := hb.lt
  have hb1 := (hb.alloc (.cells #[.int .u64 (wd P 0 : Nat), .int .u64 (wd P 1 : Nat), .int .u64 (wd P 2 : Nat), .int .u64 (wd P 3 : Nat)] 95)).drew
  have F1 := ((Fr.refl (fun b => b = x) w).alloc (.cells #[.int .u64 (wd P 0 : Nat), .int .u64 (wd P 1 : Nat), .int .u64 (wd P 2 : Nat), .int .u64 (wd P 3 : Nat)] 95)).drew
  unfold setV
  go_enter Tryz.func143, Tryz.ntmps143
  by_cases hfull : 24 ≤ ns.length
  · go_wp2_with fail
    go_region_with (rw [← ndV_leaf]; refine (addR_any (leafNd k P) hb1 hL hlen hd (okNd.leaf hk)).mono ?_; intro e w4 hA; obtain ⟨rfl, f4, f4', hb4, hL4⟩ := hA.full hfull; have b1 := hb4.cell (o := 291 + r.length * 5 + 2) (by omega); have bd := hb4.cell (o := 321) (by omega); rw [hL4.dp] at bd; have z4 := hb4.frozen)
    all_goals
      go_end0
      refine ⟨rfl, (F1.trans f4 (fun _ _ h => h)).setC x (291 + r.length * 5 + 2) _ (fun _ => rfl), ?_⟩
      rw [show setAtom _ _ = .error (8, i) by rw [addS_full hfull]; rfl]
      exact ⟨_, i, ns, g, _, r, hb4.set (291 + r.length * 5 + 2) _, hL4.atom hlen hd none, hwf, hlen, hg3, hd⟩
  · have hnf : ns.length < 24 := by omega
    clear hfull
    go_wp2_with fail
    go_region_with (rw [← ndV_leaf]; refine (addR_any (leafNd k P) hb1 hL hlen hd (okNd.leaf hk)).mono ?_; intro e w4 hA; obtain ⟨rfl, f4, f4', hb4, hL4⟩ := hA.room hnf; have b1 := hb4.cell (o := 291 + r.length * 5 + 2) (by omega); have bd := hb4.cell (o := 321) (by omega); rw [hL4.dp] at bd; have z4 := hb4.frozen)
    all_goals
      go_end0
      refine ⟨rfl, (F1.trans f4 (fun _ _ h => h)).setC x (291 + r.length * 5 + 2) _ (fun _ => rfl), ?_⟩
      rw [show setAtom _ _ = .ok ⟨⟨i, ns ++ [leafNd k P], g⟩, ⟨al, ct, some ns.length, num, pl⟩, r⟩ by rw [addS_room hnf]; rfl]
      exact ⟨_, q, hb4.set (291 + r.length * 5 + 2) _, hL4.atom (by simp; omega) hd (some ns.length)⟩
end Go.Proofs.Qxb6500283aGreat
