import Derived.Test.Qxb6500283aGreatSyn4
namespace Go.Proofs.Qxb6500283aGreat

/-! The loop keeps its state in order. -/
theorem addS_rs {p : ByteArray} {s s' : Sg} {n : Nd} {y : Nat} (h : SgOk p s) (hn : okNd s.ns.length n) (e : addS s n = .ok (y, s')) : SgOk p s' ∧ y < s'.ns.length ∧ s.ns.length ≤ s'.ns.length := by
  have h1 := addS_ok h hn
  rw [e] at h1
  have h2 := addS_grow e
  exact ⟨h1.1, by have := h1.2; omega, by rw [h2.2.2.1]; simp⟩
theorem joinN_rs {p : ByteArray} {s s' : Sg} {l : Option Nat} {x y : Nat} (h : SgOk p s) (hx : x < s.ns.length) (hl : ∀ k, l = some k → k < s.ns.length) (e : joinN l x s = .ok (y, s')) : SgOk p s' ∧ y < s'.ns.length ∧ s.ns.length ≤ s'.ns.length := by
  cases l with
  | none => cases e; exact ⟨h, hx, Nat.le_refl _⟩
  | some k => exact addS_rs h (okNd.cat (hl k rfl) hx) e
theorem altN_rs {p : ByteArray} {s s' : Sg} {l : Option Nat} {x y : Nat} (h : SgOk p s) (hx : x < s.ns.length) (hl : ∀ k, l = some k → k < s.ns.length) (e : altN l x s = .ok (y, s')) : SgOk p s' ∧ y < s'.ns.length ∧ s.ns.length ≤ s'.ns.length := by
  cases l with
  | none => cases e; exact ⟨h, hx, Nat.le_refl _⟩
  | some k => exact addS_rs h (okNd.alt (hl k rfl) hx) e
theorem emptyN_rs {p : ByteArray} {s s' : Sg} {l : Option Nat} {y : Nat} (h : SgOk p s) (hl : ∀ k, l = some k → k < s.ns.length) (e : emptyN l s = .ok (y, s')) : SgOk p s' ∧ y < s'.ns.length ∧ s.ns.length ≤ s'.ns.length := by
  cases l with
  | none => exact addS_rs h (okNd.leaf (.inl rfl)) e
  | some k => cases e; exact ⟨h, hl _ rfl, Nat.le_refl _⟩
theorem frs_mono {p : ByteArray} {n n' : Nat} {r : List Frm} (h : ∀ g ∈ r, FrOk p n g) (hn : n ≤ n') : ∀ g ∈ r, FrOk p n' g := fun g hg => (h g hg).mono hn
theorem RsOk.join {p : ByteArray} {t t1 : Rs} (h : RsOk p t) (e : joinR t = .ok t1) : RsOk p t1 := by
  unfold joinR at e
  split at e
  · cases e; exact h
  · rename_i a ha
    split at e
    · cases e
    · rename_i hj
      cases e
      obtain ⟨h1, h2, h3⟩ := joinN_rs h.s (h.f.2.2.1 a ha) h.f.2.1 hj
      exact ⟨h1, ⟨fun k e => (by have := h.f.1 k e; first | omega | (simp only; omega)), fun k e => (by cases e; exact h2), fun k e => (by cases e), h.f.2.2.2⟩, frs_mono h.r h3, h.d⟩
theorem RsOk.fold {p : ByteArray} {t t1 : Rs} (h : RsOk p t) (e : foldR t = .ok t1) : RsOk p t1 ∧ t1.r = t.r ∧ t1.s.i = t.s.i ∧ (∃ y, t1.f.alt = some y) ∧ t1.f.num = t.f.num ∧ t1.f.at_ = t.f.at_ := by
  unfold foldR at e
  split at e
  · cases e
  · rename_i he
    split at e
    · cases e
    · rename_i ha
      cases e
      obtain ⟨h1, h2, h3⟩ := emptyN_rs h.s h.f.2.1 he
      obtain ⟨h4, h5, h6⟩ := altN_rs h1 h2 (fun k e => by have := h.f.1 k e; omega) ha
      exact ⟨⟨h4, ⟨fun k e => (by cases e; exact h5), fun k e => (by cases e), fun k e => (by have := h.f.2.2.1 k e; first | omega | (simp only; omega)), h.f.2.2.2⟩, frs_mono h.r (by first | omega | (simp only; omega)), h.d⟩, rfl, by rw [show (_ : Sg).i = _ from altN_i ha, emptyN_i he], ⟨_, rfl⟩, rfl, rfl⟩
theorem RsOk.atom {p : ByteArray} {t t1 : Rs} {r : Res} (h : RsOk p t) (hr : ∀ y s', r = .ok (y, s') → SgOk p s' ∧ y < s'.ns.length ∧ t.s.ns.length ≤ s'.ns.length) (e : setAtom t r = .ok t1) : RsOk p t1 := by
  unfold setAtom at e
  split at e
  · cases e
  · cases e
    obtain ⟨h1, h2, h3⟩ := hr _ _ rfl
    exact ⟨h1, ⟨fun k e => (by have := h.f.1 k e; first | omega | (simp only; omega)), fun k e => (by have := h.f.2.1 k e; first | omega | (simp only; omega)), fun k e => (by cases e; exact h2), h.f.2.2.2⟩, frs_mono h.r h3, h.d⟩
theorem RsOk.sign {p : ByteArray} {t t1 : Rs} (h : RsOk p t) (hi : t.s.i < p.size) (e : signR p t = .ok t1) : RsOk p t1 := by
  unfold signR at e
  split at e
  · cases e
  · rename_i a ha
    split at e
    · cases e
    · rename_i lo hi' j hc
      split at e
      · cases e
      · refine h.atom (fun y s' e2 => ?_) e
        have h1 := count_le hi hc
        exact addS_rs (s := ⟨lazyEnd p j, t.s.ns, t.s.g⟩) ⟨h.s.wf, h.s.len, h.s.g, (lazyEnd_le h1.1).1⟩ (okNd.rep (h.f.2.2.1 a ha)) e2
theorem RsOk.open_ {p : ByteArray} {t t1 : Rs} (h : RsOk p t) (hi : t.s.i < p.size) (e : openR p t = .ok t1) : RsOk p t1 := by
  unfold openR at e
  split at e
  · cases e
  · split at e
    · cases e
    · rename_i hd c s1 ho
      cases e
      obtain ⟨h1, h2, h3, h4⟩ := openS_ok h.s hi ho
      refine ⟨h1, ⟨fun k e => (by cases e), fun k e => (by cases e), fun k e => (by cases e), h2, h.s.i⟩, fun g hg => ?_, by simp; omega⟩
      rw [show (Rs.s ⟨s1, ⟨none, none, none, c, t.s.i⟩, t.f :: t.r⟩).ns = t.s.ns from h3]
      rcases List.mem_cons.1 hg with rfl | hg
      · exact h.f
      · exact h.r g hg
theorem RsOk.shut {p : ByteArray} {t t1 : Rs} (h : RsOk p t) (hi : t.s.i < p.size) (e : shutR t = .ok t1) : RsOk p t1 := by
  unfold shutR at e
  split at e
  · cases e
  · rename_i t2 hf
    obtain ⟨h1, h2, h3, ⟨y, h4⟩, h5, h6⟩ := h.fold hf
    split at e
    · cases e
    · rename_i g r hr
      split at e
      · cases e
      · rename_i y2 s' hs
        cases e
        have hg := h1.r g (by rw [hr]; simp)
        have key : SgOk p s' ∧ y2 < s'.ns.length ∧ t2.s.ns.length ≤ s'.ns.length := by
          rw [h4] at hs
          unfold shutS at hs
          split at hs
          · cases hs
            exact ⟨⟨h1.s.wf, h1.s.len, h1.s.g, by simp only; omega⟩, h1.f.1 _ h4, Nat.le_refl _⟩
          · exact addS_rs (s := ⟨t2.s.i + 1, t2.s.ns, t2.s.g⟩) ⟨h1.s.wf, h1.s.len, h1.s.g, by simp only; omega⟩ (okNd.grp (h1.f.1 _ h4)) hs
        exact ⟨key.1, ⟨fun k e => (by have := hg.1 k e; first | omega | (simp only; omega)), fun k e => (by have := hg.2.1 k e; first | omega | (simp only; omega)), fun k e => (by cases e; exact key.2.1), hg.2.2.2⟩, frs_mono (fun g' hg' => h1.r g' (by rw [hr]; simp [hg'])) key.2.2, by have := h1.d; rw [hr] at this; simp at this; simp only; omega⟩
theorem RsOk.step {p : ByteArray} {t t1 : Rs} (h : RsOk p t) (hi : t.s.i < p.size) (e : StepR p t (.ok t1)) : RsOk p t1 := by
  generalize hr : (Except.ok t1 : Except Er Rs) = r at e
  cases e with
  | sign => exact h.sign hi hr.symm
  | joinE => cases hr
  | @bar t2 hb hj =>
    have h2 := h.join hj
    split at hr
    · cases hr
    · rename_i t3 hf
      cases hr
      obtain ⟨h1, _, h3, _⟩ := h2.fold hf
      have h4 := (joinR_ok hj).1
      exact ⟨⟨h1.s.wf, h1.s.len, h1.s.g, by simp only; omega⟩, h1.f, h1.r, h1.d⟩
  | shut hb hj => exact (h.join hj).shut (by rw [(joinR_ok hj).1]; exact hi) hr.symm
  | open_ hb hj => exact (h.join hj).open_ (by rw [(joinR_ok hj).1]; exact hi) hr.symm
  | leafE => cases hr
  | @leaf t2 k P j _ _ _ _ hj hl =>
    have h2 := h.join hj
    have h3 := hl.le hi
    simp only at h3
    exact h2.atom (fun y s' e => addS_rs (p := p) (s := ⟨j, t2.s.ns, t2.s.g⟩) (n := leafNd k P) ⟨h2.s.wf, h2.s.len, h2.s.g, h3.1⟩ (okNd.leaf (.inr h3.2.2)) e) hr.symm
end Go.Proofs.Qxb6500283aGreat
