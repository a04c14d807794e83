/- All that Keeps needs of the core form. -/
import Derived.Test.Qxb6500283aGreatT8
import Derived.Test.Qxb6500283aGreatW10
namespace Go.Proofs.Qxb6500283aGreat

/-- The bounds that a walk over a tree wants. -/
def RxW : Rx → Prop
  | .cat a b => RxW a ∧ RxW b
  | .alt a b => RxW a ∧ RxW b
  | .grp a k => RxW a ∧ k ≤ 3
  | .rep a mn mx _ => RxW a ∧ mn ≤ 3 ∧ -1 ≤ mx ∧ mx ≤ 3 ∧ (0 ≤ mx → (mn : Int) ≤ mx)
  | _ => True
theorem IsT.w {ns : List Nd} {g : Nat} (hrb : ∀ k (h : k < ns.length), RB ns[k]) (hg : g ≤ 3) {k : Nat} {r : Rx} (h : IsT ns k r) : RxOk g r → RxW r := by
  induction h with
  | emp => exact fun _ => trivial
  | set => exact fun _ => trivial
  | bol => exact fun _ => trivial
  | eol => exact fun _ => trivial
  | cat _ _ _ _ _ _ _ _ ih1 ih2 => exact fun h => ⟨ih1 h.1, ih2 h.2⟩
  | alt _ _ _ _ _ _ _ _ ih1 ih2 => exact fun h => ⟨ih1 h.1, ih2 h.2⟩
  | @rep k A m n a h e e1 e2 l1 hA ih1 =>
    obtain ⟨hk, rfl⟩ := getE h
    obtain ⟨p1, p2, p3, p4, p5⟩ := hrb k hk e
    exact fun h => ⟨ih1 h.1, by omega, p3, p4, fun hx => by have := p5 hx; omega⟩
  | grp _ _ _ _ _ _ ih1 => exact fun h => ⟨ih1 h.1, by have := h.2; omega⟩
theorem RxW.co : ∀ r, RxW r → RxW (co r)
  | .emp, _ => trivial
  | .set _, _ => trivial
  | .bol, _ => trivial
  | .eol, _ => trivial
  | .cat a b, h => by
    have ha := RxW.co a h.1
    have hb := RxW.co b h.2
    simp only [Go.Proofs.Qxb6500283aGreat.co]
    split
    · exact hb
    · split
      · exact ha
      · exact ⟨ha, hb⟩
  | .alt a b, h => by
    have ha := RxW.co a h.1
    have hb := RxW.co b h.2
    have ch : ∀ z x, RxW x → RxW (chR z x) := fun z x hx => by
      unfold chR
      split
      · exact hx
      · split <;> trivial
    simp only [Go.Proofs.Qxb6500283aGreat.co]
    split
    · exact hb
    · split
      · exact ha
      · exact ⟨ch _ _ ha, ch _ _ hb⟩
  | .grp a k, h => by
    have ha := RxW.co a h.1
    simp only [Go.Proofs.Qxb6500283aGreat.co]
    refine ⟨?_, h.2⟩
    unfold chR
    split
    · exact ha
    · split <;> trivial
  | .rep a mn mx lz, h => by
    have ha := RxW.co a h.1
    simp only [Go.Proofs.Qxb6500283aGreat.co]
    generalize Go.Proofs.Qxb6500283aGreat.co a = x at *
    have reps : ∀ k, RxW (repsR x (k + 1)) := by
      intro k
      induction k with
      | zero => exact ha
      | succ k ih => exact ⟨ih, ha⟩
    have star : RxW (starR x lz) := ⟨ha, by omega, by omega, by omega, fun h => by omega⟩
    have opt : ∀ k, RxW (optR x lz (k + 1)) := by
      intro k
      induction k with
      | zero => cases lz <;> exact ⟨by first | trivial | exact ha, by first | trivial | exact ha⟩
      | succ k ih =>
        have hc : RxW (optXR x (optR x lz (k + 1)) (k + 1)) := ⟨ha, ih⟩
        cases lz <;> exact ⟨by first | trivial | exact hc, by first | trivial | exact hc⟩
    unfold unrollR
    by_cases hm : mx < 0
    · rw [if_pos hm]
      by_cases hz : mn = 0
      · rw [if_pos hz]; exact star
      · rw [if_neg hz]
        obtain ⟨m, rfl⟩ : ∃ m, mn = m + 1 := ⟨mn - 1, by omega⟩
        exact ⟨reps m, star⟩
    · rw [if_neg hm]
      by_cases hlt : (mn : Int) < mx
      · rw [if_pos hlt]
        obtain ⟨k, hk⟩ : ∃ k, mx.toNat - mn = k + 1 := ⟨mx.toNat - mn - 1, by omega⟩
        rw [hk]
        by_cases hz : mn = 0
        · rw [if_pos hz]; exact opt k
        · rw [if_neg hz]
          obtain ⟨m, rfl⟩ : ∃ m, mn = m + 1 := ⟨mn - 1, by omega⟩
          exact ⟨reps m, opt k⟩
      · rw [if_neg hlt]
        by_cases hz : mn = 0
        · subst hz; trivial
        · obtain ⟨m, rfl⟩ : ∃ m, mn = m + 1 := ⟨mn - 1, by omega⟩
          exact reps m
theorem RxW.ch {z : Nat} {x : Rx} (h : RxW x) : RxW (chR z x) := by
  unfold chR
  split
  · exact h
  · split <;> trivial
theorem Chk.wf {ns : List Nd} {N g i : Nat} {S : List Nat} (h : Chk ns N g i S) : (∀ a ∈ S, a < i) ∧ ∀ k, k < i → ∃ n, ns[k]? = some n ∧ okNd k n := by
  induction h with
  | nil => exact ⟨fun a ha => (by cases ha), fun k hk => (by omega)⟩
  | @step i S S' _ hc ih =>
    obtain ⟨ih1, ih2⟩ := ih
    have up : ∀ n, ns[i]? = some n → okNd i n → ∀ k, k < i + 1 → ∃ n, ns[k]? = some n ∧ okNd k n := fun n h1 h2 k hk => by
      by_cases hki : k < i
      · exact ih2 k hki
      · obtain rfl : k = i := by omega
        exact ⟨n, h1, h2⟩
    have st : ∀ T : List Nat, (∀ a ∈ T, a < i) → ∀ a ∈ i :: T, a < i + 1 := fun T hT a ha => by
      rcases List.mem_cons.1 ha with rfl | ha
      · omega
      · have := hT a ha; omega
    cases hc with
    | leaf h1 h2 =>
      refine ⟨st _ ih1, up _ h1 ?_⟩
      rcases h2 with rfl | rfl | rfl <;> exact okNd.leaf (by omega)
    | set h1 h2 => exact ⟨st _ ih1, up _ h1 (okNd.leaf (by omega))⟩
    | cat h1 _ _ _ _ =>
      have ha := ih1 _ (List.mem_cons_of_mem _ (List.mem_cons_self ..))
      have hb := ih1 _ (List.mem_cons_self ..)
      exact ⟨st _ (fun a h => ih1 a (List.mem_cons_of_mem _ (List.mem_cons_of_mem _ h))), up _ h1 (okNd.cat ha hb)⟩
    | alt h1 =>
      have ha := ih1 _ (List.mem_cons_of_mem _ (List.mem_cons_self ..))
      have hb := ih1 _ (List.mem_cons_self ..)
      exact ⟨st _ (fun a h => ih1 a (List.mem_cons_of_mem _ (List.mem_cons_of_mem _ h))), up _ h1 (.inr (.inl ⟨.inr rfl, by simp [altNd]; omega⟩))⟩
    | grp h1 _ _ =>
      have ha := ih1 _ (List.mem_cons_self ..)
      exact ⟨st _ (fun a h => ih1 a (List.mem_cons_of_mem _ h)), up _ h1 (.inr (.inr ⟨.inr rfl, by simp [grpNd]; omega⟩))⟩
    | rep h1 _ =>
      have ha := ih1 _ (List.mem_cons_self ..)
      exact ⟨st _ (fun a h => ih1 a (List.mem_cons_of_mem _ h)), up _ h1 (.inr (.inr ⟨.inl rfl, by simp [repNd]; omega⟩))⟩
structure KeepOk (ns : List Nd) (y : Nat) (cl : List Nd) (g : Nat) : Prop where
  tree : ∃ r r', IsT ns y r ∧ RxW r ∧ IsT cl (cl.length - 1) r' ∧ RxW r' ∧ ∀ s : ByteArray, EqF s.size (wy s r) (wy s r')
  wf : WF cl
  chk : Chk cl cl.length g cl.length [cl.length - 1]
theorem keepOk {p : ByteArray} {ns : List Nd} {y g : Nat} (h : ModelL p (.ok (ns, y, g))) : KeepOk ns y (coreL ns y) g := by
  obtain ⟨hT, hg⟩ := h.tree
  have hy : y < ns.length := by have := hT.root; omega
  have hF : (∀ n ∈ ns, FormNd g n) ∧ LoopOk ns := by
    rcases h with ⟨_, h⟩ | ⟨_, h⟩
    · cases h
    · exact h.form
  obtain ⟨r, hr, hB⟩ := isT_any hT.wf hT.rb hT.cb y hy
  have hO := hr.ok hF.1 hF.2
  obtain ⟨hz, hR⟩ := core_tree hT.wf hT.rb hr hB
  have hC := core_main hT.wf hT.rb y hy
  have hW := hr.w hT.rb hg hO
  have hch := RunT.chd (z := zz ns y) hR
  have hI := hch []
  have hm := hC.chd.1.ne
  have hchk : Chk (coreL ns y) (coreL ns y).length g (coreL ns y).length [(coreL ns y).length - 1] := by
    by_cases h1 : (zz ns y).1 = 1
    · have e : coreL ns y = [leafNd 1 noP] := by unfold coreL chdW; simp [h1]
      rw [e]
      exact Chk.step .nil (.set rfl (fun _ => Nat.le_refl _))
    · have hk : RunK (coreL ns y).length g (chdW (zz ns y) (bld ns y)) := RunK.chd hC.ok.sh h1 (fun h2 => (core_chk hT.wf hT.rb hF.1 hr hB hO h2).1)
      have := hk (coreL ns y) [] [] [] (by simp [coreL]) .nil
      simpa [coreL] using this
  refine ⟨⟨r, chR (sh r) (co r), hr, hW, ?_, (RxW.co r hW).ch, fun s => (kept s r hB).ch⟩, fun k hk => ?_, hchk⟩
  · rw [hz] at hI
    simpa [coreL] using hI
  · obtain ⟨n, h1, h2⟩ := hchk.wf.2 k hk
    obtain ⟨_, rfl⟩ := getE h1
    exact h2
end Go.Proofs.Qxb6500283aGreat
