/- The core form is in order. -/
import Derived.Test.Qxb6500283aGreatT7
namespace Go.Proofs.Qxb6500283aGreat

theorem RunK.chd {N g : Nat} {z : SZ} {f : Run} (h1 : z.1 ≤ 2) (hn : z.1 ≠ 1) (h : z.1 = 2 → RunK N g f) : RunK N g (chdW z f) := by
  by_cases h2 : z.1 = 2
  · have e : chdW z f = f := by funext b; simp [chdW, h2]
    rw [e]
    exact h h2
  · have h0 : z.1 = 0 := by omega
    have e : chdW z f = fun _ => [leafNd 0 noP] := by funext b; simp [chdW, h0]
    rw [e]
    exact RunK.one (fun ns i S e => .leaf e (.inl rfl))
theorem form_leaf {g : Nat} {n : Nd} (h : FormNd g n) : (n.kind = 1 → ∃ P, n = leafNd 1 P) ∧ (n.kind = 2 → n = leafNd 2 noP) ∧ (n.kind = 3 → n = leafNd 3 noP) := by
  rcases h with ⟨P, rfl⟩ | rfl | rfl | rfl | ⟨_, _, rfl⟩ | ⟨_, _, rfl⟩ | ⟨_, _, _, _, rfl⟩ | ⟨_, _, _, _, rfl⟩
  · exact ⟨fun _ => ⟨P, rfl⟩, fun h => by simp [leafNd] at h, fun h => by simp [leafNd] at h⟩
  · exact ⟨fun h => by simp [leafNd] at h, fun h => by simp [leafNd] at h, fun h => by simp [leafNd] at h⟩
  · exact ⟨fun h => by simp [leafNd] at h, fun _ => rfl, fun h => by simp [leafNd] at h⟩
  · exact ⟨fun h => by simp [leafNd] at h, fun h => by simp [leafNd] at h, fun _ => rfl⟩
  · exact ⟨fun h => by simp [catNd] at h, fun h => by simp [catNd] at h, fun h => by simp [catNd] at h⟩
  · exact ⟨fun h => by simp [altNd] at h, fun h => by simp [altNd] at h, fun h => by simp [altNd] at h⟩
  · exact ⟨fun h => by simp [repNd] at h, fun h => by simp [repNd] at h, fun h => by simp [repNd] at h⟩
  · exact ⟨fun h => by simp [grpNd] at h, fun h => by simp [grpNd] at h, fun h => by simp [grpNd] at h⟩
theorem RootK.one {n : Nd} (h : n.kind ≠ 0) : RootK (fun _ => [n]) := fun _ => ⟨n, rfl, h⟩
theorem core_chk {ns : List Nd} {N g : Nat} (hwf : WF ns) (hrb : ∀ k (h : k < ns.length), RB ns[k]) (hform : ∀ n ∈ ns, FormNd g n) {x : Nat} {r : Rx} (h : IsT ns x r) : RxB r → RxOk g r → (zz ns x).1 = 2 → RunK N g (bld ns x) ∧ RootK (bld ns x) := by
  induction h with
  | emp h e =>
    obtain ⟨hk, rfl⟩ := getE h
    intro _ _ hz
    rw [zz_eq hwf _ hk] at hz
    simp [zNd, e] at hz
  | @set k n h e =>
    obtain ⟨hk, rfl⟩ := getE h
    intro _ _ hz
    rw [zz_eq hwf _ hk] at hz
    rw [bld_eq hwf hk]
    have : bldB ns (bld ns) ns[k] = fun _ => [ns[k]] := by simp [bldB, e]
    rw [this]
    obtain ⟨P, hP⟩ := (form_leaf (hform _ (List.getElem_mem hk))).1 e
    rw [hP] at hz ⊢
    have hs : setE P = false := by
      cases hq : setE P with
      | false => rfl
      | true => simp [zNd, leafNd, hq] at hz
    exact ⟨RunK.one (fun ns i S e => .set e (fun h => by rw [hs] at h; cases h)), RootK.one (by simp [leafNd])⟩
  | @bol k n h e =>
    obtain ⟨hk, rfl⟩ := getE h
    intro _ _ _
    rw [bld_eq hwf hk]
    have : bldB ns (bld ns) ns[k] = fun _ => [ns[k]] := by simp [bldB, e]
    rw [this]
    have hP := (form_leaf (hform _ (List.getElem_mem hk))).2.1 e
    rw [hP]
    exact ⟨RunK.one (fun ns i S e => .leaf e (.inr (.inl rfl))), RootK.one (by simp [leafNd])⟩
  | @eol k n h e =>
    obtain ⟨hk, rfl⟩ := getE h
    intro _ _ _
    rw [bld_eq hwf hk]
    have : bldB ns (bld ns) ns[k] = fun _ => [ns[k]] := by simp [bldB, e]
    rw [this]
    have hP := (form_leaf (hform _ (List.getElem_mem hk))).2.2 e
    rw [hP]
    exact ⟨RunK.one (fun ns i S e => .leaf e (.inr (.inr rfl))), RootK.one (by simp [leafNd])⟩
  | @cat k A B n a b h e e1 e2 l1 l2 hA hB ih1 ih2 =>
    obtain ⟨hk, rfl⟩ := getE h
    rintro ⟨b1, b2⟩ ⟨o1, o2⟩ hz
    obtain ⟨zA, rA⟩ := core_tree hwf hrb hA b1
    have kA := ih1 b1 o1
    obtain ⟨zB, rB⟩ := core_tree hwf hrb hB b2
    have kB := ih2 b2 o2
    have CA := core_main hwf hrb A (by omega)
    have CB' := core_main hwf hrb B (by omega)
    have z1 : zz ns k = catZ (zz ns A) (zz ns B) := by
      rw [zz_eq hwf _ hk]
      simp only [zNd, e]
      rw [e1, e2]
      rfl
    have d1 : bld ns k = if (zz ns A).1 = 0 then bld ns B else if (zz ns B).1 = 0 then bld ns A else joinW catNd (bld ns A) (bld ns B) := by
      rw [bld_eq hwf hk]
      simp only [bldB, e]
      rw [e1, e2]
      rfl
    rw [z1] at hz
    rw [d1]
    unfold catZ at hz
    have sA := CA.ok.sh
    have sB := CB'.ok.sh
    by_cases c1 : (zz ns A).1 = 1 ∨ (zz ns B).1 = 1
    · rw [if_pos c1] at hz; cases hz
    rw [if_neg c1] at hz
    by_cases c2 : (zz ns A).1 = 0
    · rw [if_pos c2] at hz ⊢
      exact kB hz
    rw [if_neg c2] at hz ⊢
    have a2 : (zz ns A).1 = 2 := by omega
    by_cases c3 : (zz ns B).1 = 0
    · rw [if_pos c3]
      exact kA a2
    · rw [if_neg c3]
      have b2' : (zz ns B).1 = 2 := by omega
      have p := kA a2
      have q := kB b2'
      exact ⟨RunK.join4 (CA.mv a2) (CB'.mv b2') p.1 q.1 p.2 q.2, RootK.join (fun _ _ => by simp [catNd]) (CA.mv a2) (CB'.mv b2')⟩
  | @alt k A B n a b h e e1 e2 l1 l2 hA hB ih1 ih2 =>
    obtain ⟨hk, rfl⟩ := getE h
    rintro ⟨b1, b2⟩ ⟨o1, o2⟩ hz
    obtain ⟨zA, rA⟩ := core_tree hwf hrb hA b1
    have kA := ih1 b1 o1
    obtain ⟨zB, rB⟩ := core_tree hwf hrb hB b2
    have kB := ih2 b2 o2
    have CA := core_main hwf hrb A (by omega)
    have CB' := core_main hwf hrb B (by omega)
    have z1 : zz ns k = altZ (zz ns A) (zz ns B) := by
      rw [zz_eq hwf _ hk]
      simp only [zNd, e]
      rw [e1, e2]
      rfl
    have d1 : bld ns k = if (zz ns A).1 = 1 then bld ns B else if (zz ns B).1 = 1 then bld ns A else joinW altNd (chdW (zz ns A) (bld ns A)) (chdW (zz ns B) (bld ns B)) := by
      rw [bld_eq hwf hk]
      simp only [bldB, e]
      rw [e1, e2]
      rfl
    rw [z1] at hz
    rw [d1]
    unfold altZ at hz
    have sA := CA.ok.sh
    have sB := CB'.ok.sh
    by_cases c1 : (zz ns A).1 = 1
    · rw [if_pos c1] at hz ⊢
      exact kB hz
    rw [if_neg c1] at hz ⊢
    by_cases c2 : (zz ns B).1 = 1
    · rw [if_pos c2] at hz ⊢
      exact kA hz
    rw [if_neg c2]
    exact ⟨RunK.join5 CA.chd.1 CB'.chd.1 (RunK.chd sA c1 (fun h => (kA h).1)) (RunK.chd sB c2 (fun h => (kB h).1)), RootK.join (fun _ _ => by simp [altNd]) CA.chd.1 CB'.chd.1⟩
  | @rep k A m n a h e e1 e2 l1 hA ih1 =>
    obtain ⟨hk, rfl⟩ := getE h
    rintro ⟨b1, b2⟩ ⟨o1, o2⟩ hz
    obtain ⟨zA, rA⟩ := core_tree hwf hrb hA b1
    have kA := ih1 b1 o1
    have CA := core_main hwf hrb A (by omega)
    have z1 : zz ns k = repZ (zz ns A) (m : Nat) ns[k].mx := by
      rw [zz_eq hwf _ hk]
      simp only [zNd, e]
      rw [e1, e2]
      rfl
    have d1 : bld ns k = unrollW (bld ns A) m ns[k].mx ns[k].lz := by
      rw [bld_eq hwf hk]
      simp only [bldB, e]
      rw [e1, e2]
      rfl
    rw [z1] at hz
    rw [d1]
    unfold repZ at hz
    by_cases c1 : (zz ns A).1 = 1 ∧ 0 < (m : Int)
    · rw [if_pos c1] at hz; cases hz
    rw [if_neg c1] at hz
    by_cases c2 : (zz ns A).1 ≠ 2 ∨ ns[k].mx = 0
    · rw [if_pos c2] at hz; cases hz
    have a2 : (zz ns A).1 = 2 := by omega
    have p := kA a2
    exact RunK.unroll (CA.mv a2) p.1 p.2 (rA a2) _ (by omega) b2 (fun hx => by rw [(nul_co a b1).2.2 (by omega)]; exact o2 hx)
  | @grp k A c n a h e e1 e2 l1 hA ih1 =>
    obtain ⟨hk, rfl⟩ := getE h
    rintro b1 ⟨o1, o2, o3⟩ hz
    obtain ⟨zA, rA⟩ := core_tree hwf hrb hA b1
    have kA := ih1 b1 o1
    have CA := core_main hwf hrb A (by omega)
    have z1 : zz ns k = grpZ (zz ns A) := by
      rw [zz_eq hwf _ hk]
      simp only [zNd, e]
      rw [e1]
      rfl
    have d1 : bld ns k = grpW c (chdW (zz ns A) (bld ns A)) := by
      rw [bld_eq hwf hk]
      simp only [bldB, e]
      rw [e1, e2]
      rfl
    rw [z1] at hz
    rw [d1]
    unfold grpZ at hz
    by_cases c1 : (zz ns A).1 = 1
    · rw [if_pos c1] at hz; cases hz
    exact ⟨RunK.grp CA.chd.1 (RunK.chd CA.ok.sh c1 (fun h => (kA h).1)) o2 o3, RootK.snoc (mk := fun a => grpNd a c) (fun _ => by simp [grpNd]) CA.chd.1⟩
end Go.Proofs.Qxb6500283aGreat
