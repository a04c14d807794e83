/- The real parser's shut. -/
import Derived.Test.Qxb6500283aGreatB5
namespace Go.Proofs.Qxb6500283aGreat
open Go Go.RowKit

theorem foldR_err {T : Rs} {e : Er} (h : foldR T = .error e) : e.1 = 8 := by
  unfold foldR at h
  split at h
  · rename_i e' he
    cases h
    unfold emptyN at he
    split at he
    · unfold addS at he; split at he
      · cases he; rfl
      · cases he
    · cases he
  · split at h
    · rename_i e' he
      cases h
      unfold altN at he
      split at he
      · cases he
      · unfold addS at he; split at he
        · cases he; rfl
        · cases he
    · cases h
theorem joinR_err {T : Rs} {e : Er} (h : joinR T = .error e) : e.1 = 8 := by
  unfold joinR at h
  split at h
  · cases h
  · split at h
    · rename_i e' he
      cases h
      unfold joinN at he
      split at he
      · cases he
      · unfold addS at he; split at he
        · cases he; rfl
        · cases he
    · cases h
set_option maxRecDepth 100000 in
set_option maxHeartbeats 8000000 in
theorem shutR_any {w : World} {x : Nat} {p : ByteArray} {T : Rs} (hM : RMem w x p T) (hT : RsOk p T) (hsz : p.size ≤ 129) (hi : T.s.i < p.size) : Calls Tryz.prog 139 #[.pointer (some ⟨x, 0, none⟩)] w fun e w' => e = .returned (.tuple #[]) ∧ RPost w x p (shutR T) w' := by
  go_enter Tryz.func139, Tryz.ntmps139
  go_wp2_with fail
  refine (foldR_any hM hT).mono ?_
  rintro e w1 ⟨rfl, F1, hP⟩
  cases hf : foldR T with
  | error e1 =>
    have h8 := foldR_err hf
    rw [hf] at hP
    obtain ⟨f, iv, ns, g, t, r, hb, hL, hrest⟩ := hP
    have ce := hb.cell (o := 323) (by omega)
    rw [hL.er, h8] at ce
    go_wp2_with fail
    refine bodyPost_ret (v := .tuple #[]) (by simp [results, Tryz.results139, go_sem]) rfl ⟨rfl, F1, ?_⟩
    rw [show shutR T = .error e1 by unfold shutR; rw [hf]]
    exact ⟨f, iv, ns, g, t, r, hb, hL, hrest⟩
  | ok T1 =>
    rw [hf] at hP
    obtain ⟨hT1, hr1, hi1, ⟨y, hy⟩, hn1, hp1⟩ := hT.fold hf
    have HF : Hid _ := hf
    clear hf hr1 hn1 hp1 hM hT
    rw [← hi1] at hi
    clear hi1
    obtain ⟨f, q, hb, hL⟩ := hP
    obtain ⟨⟨hwf, hlen, hg3, hiz⟩, ⟨hfa, _, _, hfn, _⟩, _, hd⟩ := hT1
    obtain ⟨⟨i, ns, g⟩, ⟨al, ct, at', num, pl⟩, r⟩ := T1
    simp only at hL hwf hlen hg3 hiz hd hi hfa hfn hy
    subst hy
    have hyl := hfa y rfl
    have ce := hb.cell (o := 323) (by omega)
    rw [hL.er] at ce
    have cd := hb.cell (o := 321) (by omega)
    rw [hL.dp] at cd
    have c1 := hb.cell (o := 1) (by omega)
    rw [hL.i1] at c1
    have z := hb.frozen
    cases r with
    | nil =>
      simp only [List.length_nil] at cd hL
      go_wp2_with fail
      refine (failR_any hb 1 i).mono ?_
      rintro e w2 ⟨rfl, hb2, f2⟩
      go_wp2_with fail
      refine bodyPost_ret (v := .tuple #[]) (by simp [results, Tryz.results139, go_sem]) rfl ⟨rfl, F1.trans f2 (fun _ _ h => h), ?_⟩
      rw [show shutR T = .error (1, i) by unfold shutR; rw [HF.out]]
      exact ⟨_, i, ns, g, _, [], hb2, hL.setE hlen (by simp) 1 i, hwf, hlen, hg3, by simp⟩
    | cons s r =>
      simp only [List.length_cons] at cd hd
      have hr5 : r.length < 5 := by omega
      have st0 := hL.st.1 0 (by omega)
      have st3 := hL.st.1 3 (by omega)
      simp only [List.length_cons, Nat.add_zero, frCell, oi] at st0 st3
      have a0 := hb.cell (o := 291 + (r.length + 1) * 5) (by omega)
      rw [st0] at a0
      have a3 := hb.cell (o := 291 + (r.length + 1) * 5 + 3) (by omega)
      rw [st3] at a3
      have m2 := hb.cell (o := 291 + r.length * 5 + 2) (by omega)
      have hb2 := (hb.set 321 (.int .i64 (r.length : Nat))).set 1 (.int .i64 ((i : Int) + 1))
      have hL2 := (hL.pop hlen (by omega)).setI ((i : Int) + 1)
      have F2 := (F1.setC x 321 (.int .i64 (r.length : Nat)) (fun _ => rfl)).setC x 1 (.int .i64 ((i : Int) + 1)) (fun _ => rfl)
      have d1 : ((r.length : Int) + 1 - 1) = r.length := by omega
      have d0 : (((r.length : Int) + 1) == 0) = false := by simp; omega
      have HT : Hid (∀ c res, shutS ⟨i, ns, g⟩ y num = res → c = num → shutR T = (match res with | .error e => .error e | .ok (y, s') => .ok ⟨s', ⟨s.alt, s.cat, some y, s.num, s.at_⟩, r⟩)) := by
        intro c res h _
        unfold shutR
        rw [HF.out]
        simp only [Option.getD]
        rw [h]
        cases res <;> rfl
      clear HF
      by_cases hn : num = 0
      · subst hn
        go_wp2_with fail
        go_end0
        refine ⟨rfl, F2.setC x (291 + r.length * 5 + 2) _ (fun _ => rfl), ?_⟩
        rw [HT.out 0 _ rfl rfl]
        exact ⟨_, q, hb2.set (291 + r.length * 5 + 2) _, hL2.atom hlen (by omega) (some y)⟩
      · have hn' : 0 < num := by omega
        have hok : okNd ns.length (grpNd y num) := okNd.grp hyl
        by_cases hfull : 24 ≤ ns.length
        · go_wp2_with fail
          rw [← ndV_grp]
          refine (addR_any (i := i + 1) (grpNd y num) hb2 hL2 hlen (by omega) hok).mono ?_
          intro e w3 hA
          obtain ⟨rfl, f3, f', hb3, hL3⟩ := hA.full hfull
          have b1 := hb3.cell (o := 291 + r.length * 5 + 2) (by omega)
          have z3 := hb3.frozen
          go_wp2_with fail
          go_end0
          refine ⟨rfl, (F2.trans f3 (fun _ _ h => h)).setC x (291 + r.length * 5 + 2) _ (fun _ => rfl), ?_⟩
          rw [HT.out num (.error (8, i + 1)) (by unfold shutS; rw [if_neg hn, addS_full hfull]) rfl]
          exact ⟨_, _, ns, g, _, r, hb3.set (291 + r.length * 5 + 2) _, hL3.atom hlen (by omega) none, hwf, hlen, hg3, by omega⟩
        · have hnf : ns.length < 24 := by omega
          clear hfull
          go_wp2_with fail
          rw [← ndV_grp]
          refine (addR_any (i := i + 1) (grpNd y num) hb2 hL2 hlen (by omega) hok).mono ?_
          intro e w3 hA
          obtain ⟨rfl, f3, f', hb3, hL3⟩ := hA.room hnf
          have b1 := hb3.cell (o := 291 + r.length * 5 + 2) (by omega)
          have z3 := hb3.frozen
          go_wp2_with fail
          go_end0
          refine ⟨rfl, (F2.trans f3 (fun _ _ h => h)).setC x (291 + r.length * 5 + 2) _ (fun _ => rfl), ?_⟩
          rw [HT.out num (.ok (ns.length, ⟨i + 1, ns ++ [grpNd y num], g⟩)) (by unfold shutS; rw [if_neg hn, addS_room hnf]) rfl]
          exact ⟨_, q, hb3.set (291 + r.length * 5 + 2) _, hL3.atom (by simp; omega) (by omega) (some ns.length)⟩
end Go.Proofs.Qxb6500283aGreat
