import Derived.Test.Qxb6500283aGreatS4
namespace Go.Proofs.Qxb6500283aGreat

/-! One task's step. -/
theorem denL_cons (ns : List Nd) (t : Tk) (ws : List Tk) (s : BSt) : denL ns (t :: ws) s = denL ns ws (den ns t s) := rfl
theorem runSt_join {ns : List Nd} {n : Nat} {mk : Nat → Nat → Nd} (hmk : ∀ a b, mk a b = twoNd (ndAt ns n).kind a b) (f g : Run) (s : BSt) : runSt (joinW mk f g) s = den ns (.join n) (runSt g (runSt f s)) := by
  unfold runSt den joinW
  simp only [List.length_append, List.append_assoc, hmk]
  refine Prod.ext rfl ?_
  simp only [List.length_cons, List.length_nil]
  congr 1
theorem den_unroll {ns : List Nd} {n at_ base : Nat} {e : Int} (hb : baseOf at_ e = base) (s : BSt) : den ns (.unroll n at_ e) s = (s.1.take base ++ unrollOf ns n base, (base + (unrollOf ns n base).length - 1) :: s.2.tail) := by
  subst hb
  rfl
theorem runSt_grp {ns : List Nd} {n c : Nat} (hc : (ndAt ns n).cap.toNat = c) (f : Run) (s : BSt) : runSt (grpW c f) s = den ns (.group n) (runSt f s) := by
  subst hc
  show (s.1 ++ (f s.1.length ++ [grpNd (s.1.length + (f s.1.length).length - 1) (ndAt ns n).cap.toNat]), (s.1.length + (f s.1.length ++ [grpNd (s.1.length + (f s.1.length).length - 1) (ndAt ns n).cap.toNat]).length - 1) :: s.2) = ((s.1 ++ f s.1.length) ++ [grpNd (s.1.length + (f s.1.length).length - 1) (ndAt ns n).cap.toNat], (s.1 ++ f s.1.length).length :: s.2)
  simp only [List.length_append, List.append_assoc, List.length_cons, List.length_nil]
  rfl
section
variable {ns : List Nd} {E L R n : Nat} {ws : List Tk}
theorem st_child_whole (hw : (zz ns n).1 = 2) (h : WOk ns E L R (.child n :: ws)) (s : BSt) : den ns (.child n) s = den ns (.build n) s ∧ WOk ns E L R (.build n :: ws) := by
  have e : chdW (zz ns n) (bld ns n) = bld ns n := by funext b; simp [chdW, hw]
  cases h with
  | child h1 h2 h3 h4 =>
    rw [e] at h4
    refine ⟨?_, WOk.build h1 hw h2 h3 h4⟩
    show runSt _ s = runSt _ s
    rw [e]
theorem st_child_leaf (hw : (zz ns n).1 ≠ 2) (h : WOk ns E L R (.child n :: ws)) (s : BSt) : den ns (.child n) s = (s.1 ++ [leafNd (if (zz ns n).1 = 0 then 0 else 1) noP], s.1.length :: s.2) ∧ WOk ns E (L + 1) (R + 1) ws ∧ R + 1 ≤ 25 ∧ n < ns.length := by
  have e : ∀ b, chdW (zz ns n) (bld ns n) b = [leafNd (if (zz ns n).1 = 0 then 0 else 1) noP] := fun b => by
    simp only [chdW, hw, if_false]
    split <;> simp
  cases h with
  | child h1 h2 h3 h4 =>
    rw [e] at h4
    refine ⟨?_, h4, by omega, h1⟩
    show runSt _ s = _
    unfold runSt
    rw [e]
    simp
end
section
variable {ns : List Nd} (hwf : WF ns) (hrb : ∀ k (h : k < ns.length), RB ns[k]) {E L R n : Nat} {ws : List Tk}
include hwf hrb
theorem kids {a b : Int} (hn : n < ns.length) (hk : ns[n].kind = 4 ∨ ns[n].kind = 5) (ha : ns[n].a = a) (hb : ns[n].b = b) : a.toNat < n ∧ b.toNat < n ∧ CoreOk ns a.toNat ∧ CoreOk ns b.toNat := by
  have hok := hwf n hn
  have h : 0 ≤ ns[n].a ∧ ns[n].a < n ∧ 0 ≤ ns[n].b ∧ ns[n].b < n := by
    rcases hok with ⟨hk2, _⟩ | ⟨_, h⟩ | ⟨hk2, _⟩ <;> omega
  subst ha hb
  exact ⟨by omega, by omega, core_main hwf hrb _ (by omega), core_main hwf hrb _ (by omega)⟩
omit hrb in
theorem cat_shape (hn : n < ns.length) (hk : ns[n].kind = 4) : zz ns n = catZ (zz ns ns[n].a.toNat) (zz ns ns[n].b.toNat) := by
  have hz := zz_eq hwf n hn
  unfold zNd at hz
  simp [hk] at hz
  exact hz
omit hrb in
theorem alt_shape (hn : n < ns.length) (hk : ns[n].kind = 5) : zz ns n = altZ (zz ns ns[n].a.toNat) (zz ns ns[n].b.toNat) := by
  have hz := zz_eq hwf n hn
  unfold zNd at hz
  simp [hk] at hz
  exact hz
omit hrb in
theorem cat_bld (hn : n < ns.length) (hk : ns[n].kind = 4) : bld ns n = if (zz ns ns[n].a.toNat).1 = 0 then bld ns ns[n].b.toNat else if (zz ns ns[n].b.toNat).1 = 0 then bld ns ns[n].a.toNat else joinW catNd (bld ns ns[n].a.toNat) (bld ns ns[n].b.toNat) := by
  rw [bld_eq hwf hn]
  unfold bldB
  simp [hk]
  rfl
omit hrb in
theorem alt_bld (hn : n < ns.length) (hk : ns[n].kind = 5) : bld ns n = if (zz ns ns[n].a.toNat).1 = 1 then bld ns ns[n].b.toNat else if (zz ns ns[n].b.toNat).1 = 1 then bld ns ns[n].a.toNat else joinW altNd (chdW (zz ns ns[n].a.toNat) (bld ns ns[n].a.toNat)) (chdW (zz ns ns[n].b.toNat) (bld ns ns[n].b.toNat)) := by
  rw [bld_eq hwf hn]
  unfold bldB
  simp [hk]
  rfl
omit hwf hrb in
/-- The node is another's run. -/
theorem st_same {m : Nat} (hm : m < n) (hw : (zz ns m).1 = 2) (e : bld ns n = bld ns m) (h : WOk ns E L R (.build n :: ws)) (s : BSt) : den ns (.build n) s = den ns (.build m) s ∧ WOk ns E L R (.build m :: ws) := by
  cases h with
  | build h1 _ h3 h4 h5 =>
    rw [e] at h5
    refine ⟨?_, WOk.build (by omega) hw (by omega) (by omega) h5⟩
    show runSt _ s = runSt _ s
    rw [e]
theorem st_cat (hk : ∀ h : n < ns.length, ns[n].kind = 4) (h : WOk ns E L R (.build n :: ws)) (hn : n < ns.length) (ha0 : (zz ns ns[n].a.toNat).1 ≠ 0) (hb0 : (zz ns ns[n].b.toNat).1 ≠ 0) (s : BSt) :
    den ns (.build n) s = denL ns [.build ns[n].a.toNat, .build ns[n].b.toNat, .join n] s ∧ WOk ns E L R (.build ns[n].a.toNat :: .build ns[n].b.toNat :: .join n :: ws) := by
  obtain ⟨k1, k2, ca, cb⟩ := kids hwf hrb hn (.inl (hk hn)) rfl rfl
  have hz := cat_shape hwf hn (hk hn)
  have hb := cat_bld hwf hn (hk hn)
  rw [if_neg ha0, if_neg hb0] at hb
  cases h with
  | build h1 hw h3 h4 h5 =>
    rw [hz] at hw
    unfold catZ at hw
    split at hw
    · cases hw
    · rename_i hne
      have sa := ca.ok.sh
      have sb := cb.ok.sh
      have wa : (zz ns ns[n].a.toNat).1 = 2 := by omega
      have wb : (zz ns ns[n].b.toNat).1 = 2 := by omega
      rw [hb, joinW_len (ca.mv wa) (cb.mv wb)] at h5
      refine ⟨?_, WOk.build (by omega) wa (by omega) (by simp; omega) (WOk.build (by omega) wb (by omega) (by simp; omega) (WOk.join hn (by omega) (by omega) (by omega) (by simpa [Nat.add_assoc] using h5)))⟩
      show runSt (bld ns n) s = _
      rw [hb]
      exact runSt_join (fun a b => by rw [ndAt_eq hn, hk hn]; rfl) _ _ s
theorem st_alt (hk : ∀ h : n < ns.length, ns[n].kind = 5) (h : WOk ns E L R (.build n :: ws)) (hn : n < ns.length) (ha0 : (zz ns ns[n].a.toNat).1 ≠ 1) (hb0 : (zz ns ns[n].b.toNat).1 ≠ 1) (s : BSt) :
    den ns (.build n) s = denL ns [.child ns[n].a.toNat, .child ns[n].b.toNat, .join n] s ∧ WOk ns E L R (.child ns[n].a.toNat :: .child ns[n].b.toNat :: .join n :: ws) := by
  obtain ⟨k1, k2, ca, cb⟩ := kids hwf hrb hn (.inr (hk hn)) rfl rfl
  have hb := alt_bld hwf hn (hk hn)
  rw [if_neg ha0, if_neg hb0] at hb
  cases h with
  | build h1 hw h3 h4 h5 =>
    rw [hb, joinW_len ca.chd.1 cb.chd.1] at h5
    refine ⟨?_, WOk.child (by omega) (by omega) (by simp; omega) (WOk.child (by omega) (by omega) (by simp; omega) (WOk.join hn (by omega) (by omega) (by omega) (by simpa [Nat.add_assoc] using h5)))⟩
    show runSt (bld ns n) s = _
    rw [hb]
    exact runSt_join (fun a b => by rw [ndAt_eq hn, hk hn]; rfl) _ _ s
omit hrb in
theorem st_group (hk : ∀ h : n < ns.length, ns[n].kind = 7) (h : WOk ns E L R (.build n :: ws)) (hn : n < ns.length) (s : BSt) :
    den ns (.build n) s = denL ns [.child ns[n].a.toNat, .group n] s ∧ WOk ns E L R (.child ns[n].a.toNat :: .group n :: ws) := by
  have hok := hwf n hn
  have ha : 0 ≤ ns[n].a ∧ ns[n].a < n := by
    have := hk hn
    rcases hok with ⟨hk2, _⟩ | ⟨hk2, _⟩ | ⟨_, h1, h2, _⟩ <;> omega
  have hb : bld ns n = grpW ns[n].cap.toNat (chdW (zz ns ns[n].a.toNat) (bld ns ns[n].a.toNat)) := by
    rw [bld_eq hwf hn]
    unfold bldB
    simp [hk hn]
    rfl
  cases h with
  | build h1 hw h3 h4 h5 =>
    have hl : (grpW ns[n].cap.toNat (chdW (zz ns ns[n].a.toNat) (bld ns ns[n].a.toNat)) 0).length = (chdW (zz ns ns[n].a.toNat) (bld ns ns[n].a.toNat) 0).length + 1 := by simp [grpW]
    rw [hb, hl] at h5
    refine ⟨?_, WOk.child (by omega) (by omega) (by simp; omega) (WOk.group hn (by omega) (by omega) (by omega) (by simpa [Nat.add_assoc] using h5))⟩
    show runSt (bld ns n) s = _
    rw [hb]
    exact runSt_grp (by rw [ndAt_eq hn]) _ s
theorem st_rep (hk : ∀ h : n < ns.length, ns[n].kind = 6) (h : WOk ns E L R (.build n :: ws)) (hn : n < ns.length) (s : BSt) (hL : s.1.length = L) :
    (optLz ns[n] = false → den ns (.build n) s = denL ns [.build ns[n].a.toNat, .unroll n L (-1)] s ∧ WOk ns E L R (.build ns[n].a.toNat :: .unroll n L (-1) :: ws)) ∧
    (optLz ns[n] = true → den ns (.build n) s = denL ns [.build ns[n].a.toNat, .unroll n (L + 1) L] (s.1 ++ [leafNd 0 noP], s.2) ∧ WOk ns E (L + 1) R (.build ns[n].a.toNat :: .unroll n (L + 1) L :: ws)) := by
  have hok := hwf n hn
  have ha : 0 ≤ ns[n].a ∧ ns[n].a < n := by
    have := hk hn
    rcases hok with ⟨hk2, _⟩ | ⟨hk2, _⟩ | ⟨_, h1, h2, _⟩ <;> omega
  have hb : bld ns n = unrollOf ns n := by
    rw [bld_eq hwf hn]
    unfold bldB unrollOf
    rw [ndAt_eq hn]
    simp [hk hn]
  cases h with
  | build h1 hw h3 h4 h5 =>
    have hwr := whole_rep hwf hn (hk hn) hw
    have hf := unroll_facts hwf hrb hn (hk hn) hw
    rw [hb] at h5
    refine ⟨fun ho => ⟨?_, ?_⟩, fun ho => ⟨?_, ?_⟩⟩
    · show runSt (bld ns n) s = den ns (.unroll n L (-1)) (runSt (bld ns ns[n].a.toNat) s)
      rw [hb, den_unroll (base := L) rfl]
      unfold runSt
      simp only [List.tail_cons]
      rw [← hL, List.take_left]
    · refine WOk.build (by omega) hwr.1 (by omega) (by simp; omega) (WOk.unroll hn (hk hn) hw (by omega) (by omega) (by omega) rfl (.inl ⟨rfl, ho⟩) ?_)
      unfold baseOf
      simp only [Int.reduceNeg, Int.reduceLT, if_true]
      exact h5
    · show runSt (bld ns n) s = den ns (.unroll n (L + 1) L) (runSt (bld ns ns[n].a.toNat) (s.1 ++ [leafNd 0 noP], s.2))
      rw [hb, den_unroll (base := L) (by unfold baseOf; rw [if_neg (by omega)]; rfl)]
      unfold runSt
      simp only [List.tail_cons]
      rw [List.append_assoc, ← hL, List.take_left]
    · refine WOk.build (by omega) hwr.1 (by omega) (by simp; omega) (WOk.unroll hn (hk hn) hw (by omega) (by omega) (by omega) rfl (.inr ⟨by omega, by omega, ho⟩) ?_)
      unfold baseOf
      rw [if_neg (by omega), Nat.add_sub_cancel]
      exact h5
omit hrb in
theorem st_leaf (hk : ∀ h : n < ns.length, ns[n].kind = 1 ∨ ns[n].kind = 2 ∨ ns[n].kind = 3) (h : WOk ns E L R (.build n :: ws)) (hn : n < ns.length) (s : BSt) : den ns (.build n) s = (s.1 ++ [ns[n]], s.1.length :: s.2) ∧ WOk ns E (L + 1) (R + 1) ws ∧ R + 1 ≤ 25 := by
  have hb : bld ns n = fun _ => [ns[n]] := by
    rw [bld_eq hwf hn]
    unfold bldB
    rcases hk hn with hk | hk | hk <;> simp [hk]
  cases h with
  | build h1 hw h3 h4 h5 =>
    rw [hb] at h5
    refine ⟨?_, h5, by omega⟩
    show runSt _ s = _
    rw [hb]
    rfl
end
/-- Where an unrolling waits, its first copy will lie as it must. -/
def ContOk (ns : List Nd) : List Tk → BSt → Prop
  | [], _ => True
  | t :: ws, s => (match t with | .unroll n at_ e => ∃ O : List Nd, O.length = baseOf at_ e ∧ s.1 = O ++ (if optLz (ndAt ns n) then [leafNd 0 noP] else []) ++ bld ns (ndAt ns n).a.toNat at_ ∧ ∃ r, s.2 = (at_ + (bld ns (ndAt ns n).a.toNat at_).length - 1) :: r | _ => True) ∧ ContOk ns ws (den ns t s)
theorem ContOk.app {ns : List Nd} : ∀ {ts ws : List Tk} {s : BSt}, ContOk ns ts s → ContOk ns ws (denL ns ts s) → ContOk ns (ts ++ ws) s
  | [], _, _, _, h => h
  | _ :: _, _, _, h, h2 => ⟨h.1, ContOk.app h.2 h2⟩
/-! The weight of what waits. -/
def wtT : Tk → Nat
  | .build n => 4 ^ (n + 1)
  | .child n => 4 ^ (n + 1) + 1
  | _ => 1
def wt (ws : List Tk) : Nat := (ws.map wtT).sum
theorem wt_cons (t : Tk) (ws : List Tk) : wt (t :: ws) = wtT t + wt ws := by simp [wt]
theorem pow4 {a n : Nat} (h : a < n) : 4 ^ (a + 1) * 4 ≤ 4 ^ (n + 1) := by
  have := Nat.pow_le_pow_right (n := 4) (by omega) (show a + 1 + 1 ≤ n + 1 by omega)
  rw [Nat.pow_succ] at this
  exact this
theorem pow4_pos (a : Nat) : 4 ≤ 4 ^ (a + 1) := by
  have := Nat.pow_le_pow_right (n := 4) (by omega) (show 1 ≤ a + 1 by omega)
  simpa using this
end Go.Proofs.Qxb6500283aGreat
