import Derived.Test.Qxb6500287aR3
namespace Go.Proofs.Qxb6500287a

/-! From the pattern's reading to the printed text's. -/
def Sg.ar (s : Sg) : Ar := ⟨s.ns, s.g⟩
theorem numF_ge (p : ByteArray) : ∀ f i v, -1 ≤ v → -1 ≤ (numF p f i v).1
  | 0, _, _, h => h
  | f + 1, i, v, h => by
    unfold numF
    split
    · refine numF_ge p f _ _ ?_
      rename_i hd
      simp [digB] at hd
      unfold clip
      split
      · omega
      · split <;> omega
    · exact h
theorem brace_hi {p : ByteArray} {i : Nat} {lo hi : Int} {j : Nat} (h : brace p i = some (lo, hi, j)) : -1 ≤ hi ∧ (0 ≤ hi → lo ≤ hi) := by
  unfold brace at h
  simp only at h
  split at h
  · rename_i hok
    simp only [Option.some.injEq, Prod.mk.injEq] at h
    obtain ⟨h1, h2, _⟩ := h
    simp only [braceOk, Bool.and_eq_true, Bool.not_eq_true', decide_eq_false_iff_not] at hok
    have hge : -1 ≤ (hiOf p (num p (i + 1)).1 (num p (i + 1)).2).1 := by
      unfold hiOf
      split
      · exact numF_ge p _ _ _ (by omega)
      · exact numF_ge p _ _ _ (by omega)
    rw [h2] at hge hok
    rw [h1] at hok
    refine ⟨hge, fun h0 => ?_⟩
    have h5 := hok.2
    simp at h5
    exact h5 h0
  · cases h
theorem count_hi {p : ByteArray} {i : Nat} {lo hi : Int} {j : Nat} (h : count p i = some (lo, hi, j)) : -1 ≤ hi ∧ (0 ≤ hi → lo ≤ hi) := by
  unfold count at h
  split at h
  · cases h; exact ⟨by omega, by omega⟩
  split at h
  · cases h; exact ⟨by omega, by omega⟩
  split at h
  · cases h; exact ⟨by omega, by omega⟩
  exact brace_hi h
theorem addS_room' {s s1 : Sg} {n : Nd} {y : Nat} (h : addS s n = .ok (y, s1)) : s.ns.length < 24 := by
  unfold addS at h
  split at h
  · cases h
  · omega
theorem rep_main {p : ByteArray} {k : Nat} {s0 : Ar} {x : Nat} {s : Sg} {r : Res} (h : RepL p x s r) : SgOk p s → x + 1 = s.ns.length → RP k s0 x s.ar → ∀ y s2, r = .ok (y, s2) → RP k s0 y s2.ar := by
  induction h with
  | done => intro _ _ hP y s2 e; cases e; exact hP
  | bad => intro _ _ _ y s2 e; cases e
  | loop => intro _ _ _ y s2 e; cases e
  | big => intro _ _ _ y s2 e; cases e
  | more hi hsg hc hnn ha _ ih =>
    rename_i x y s s1 lo hi' j r _
    intro hS hx hP y2 s2 e
    have hcl := count_le hi hc
    have hle := lazyEnd_le hcl.1
    have hok := addS_ok (p := p) (s := ⟨lazyEnd p j, s.ns, s.g⟩) (n := repNd x lo hi' (isB p j 63)) ⟨hS.wf, hS.len, hS.g, hle.1⟩ (okNd.rep (by show x < s.ns.length; omega))
    have hgr := addS_grow ha
    have hrm := addS_room' ha
    rw [ha] at hok
    obtain ⟨hS1, hy1⟩ := hok
    simp only at hgr hrm
    have hwf : WF (s.ns ++ [repNd x lo hi' (isB p j 63)]) := by rw [← hgr.2.2.1]; exact hS1.wf
    have hch := count_hi hc
    have key : RP k s0 y s1.ar := by
      have := repP (lz := isB p j 63) hP (by omega) hS.wf hwf hrm hcl.2.2.1 hcl.2.2.2.1 hch.1 hcl.2.2.2.2 hch.2 hnn
      unfold Sg.ar
      rw [hgr.2.2.1, hgr.2.1, hgr.2.2.2]
      exact this
    exact ih hS1 hy1 key y2 s2 e
section
variable {p : ByteArray} {d k : Nat} {A : Sg → Res → Prop}
def AltP (p : ByteArray) (k : Nat) (A : Sg → Res → Prop) : Prop := ∀ s x s', A s (.ok (x, s')) → SgOk p s → ∃ m, k = m + 1 ∧ QP m s.ar x s'.ar
theorem group_main (hA : AltP p k A) (hok : AltOk p A) {s : Sg} {r : Res} (h : GroupR p d A s r) (hS : SgOk p s) (hi : s.i < p.size) : ∀ y s2, r = .ok (y, s2) → RP k s.ar y s2.ar := by
  intro y s2 e
  cases h with
  | deep => cases e
  | many => cases e
  | err => cases e
  | open_ => cases e
  | @shut s1 s3 c x hd ho ha hc =>
    have hop := openS_ok hS hi ho
    obtain ⟨m, rfl, hQ⟩ := hA _ _ _ ha hop.1
    obtain ⟨hS3, hx3⟩ := hok _ _ ha hop.1
    have hlt := (isB_lt hc).1
    unfold openS at ho
    split at ho
    · cases ho
      unfold shutS at e
      rw [if_pos rfl] at e
      cases e
      exact QP.up (s' := s3.ar) hS3.wf hQ
    · split at ho
      · cases ho
      · rename_i hg
        cases ho
        unfold shutS at e
        rw [if_neg (by omega)] at e
        have hgr := addS_grow e
        have hrm := addS_room' e
        simp only at hgr hrm
        have hk := addS_ok (p := p) (s := ⟨s3.i + 1, s3.ns, s3.g⟩) (n := grpNd x (s.g + 1)) ⟨hS3.wf, hS3.len, hS3.g, hlt⟩ (okNd.grp (by show x < s3.ns.length; omega))
        rw [e] at hk
        have hwf : WF (s3.ns ++ [grpNd x (s.g + 1)]) := by rw [← hgr.2.2.1]; exact hk.1.wf
        have := grpP hQ (by omega) hS3.wf hwf hrm
        unfold Sg.ar
        rw [hgr.2.2.1, hgr.2.1, hgr.2.2.2]
        exact this
theorem atom_main (hA : AltP p k A) (hok : AltOk p A) {s : Sg} {r : Res} (h : AtomR p d A s r) (hS : SgOk p s) (hi : s.i < p.size) : ∀ y s2, r = .ok (y, s2) → RP k s.ar y s2.ar := by
  intro y s2 e
  have hres := h.ok hok hS hi
  cases h with
  | group _ hg => exact group_main hA hok hg hS hi y s2 e
  | sign => cases e
  | leafE => cases e
  | @leaf kd P j _ _ hl =>
    have hgr := addS_grow e
    have hrm := addS_room' e
    simp only at hgr hrm
    rw [e] at hres
    have hwf : WF (s.ns ++ [leafNd kd P]) := by rw [← hgr.2.2.1]; exact hres.1.wf
    have := leafP (k := k) (s := s.ar) hl hwf hrm
    unfold Sg.ar at this ⊢
    rw [hgr.2.2.1, hgr.2.1, hgr.2.2.2]
    exact this
theorem repR_main (hA : AltP p k A) (hok : AltOk p A) {s : Sg} {r : Res} (h : RepR p d A s r) (hS : SgOk p s) (hi : s.i < p.size) : ∀ y s2, r = .ok (y, s2) → RP k s.ar y s2.ar := by
  intro y s2 e
  cases h with
  | err => cases e
  | ok ha hl =>
    have hk := ha.ok hok hS hi
    exact rep_main hl hk.1 hk.2 (atom_main hA hok ha hS hi _ _ rfl) y s2 e
theorem RP.c {s s' : Ar} {x : Nat} (h : RP k s x s') (hx : x < s'.ns.length) : CP k s x s' := ⟨hx, h.a0, h.t1, fun _ => ⟨h.c2, h.h2⟩, fun _ _ _ => ⟨h.r3, h.h3, h.r4, h.h4⟩⟩
/-- What stands left of the item at hand. -/
def LeftP (k : Nat) (s0 : Ar) (l : Option Nat) (s : Sg) : Prop := match l with
  | none => s0 = s.ar
  | some l => CP k s0 l s.ar ∧ CatH k (pr s.ns l 2) s0 l s.ar ∧ Head (pr s.ns l 2)
theorem cat_main (hA : AltP p k A) (hok : AltOk p A) (hG : AltG A) {l : Option Nat} {s : Sg} {r : Res} (h : CatL p d A l s r) : ∀ s0, SgOk p s → (∀ j, l = some j → j + 1 = s.ns.length) → LeftP k s0 l s → ∀ y s2, r = .ok (y, s2) → CP k s0 y s2.ar := by
  induction h with
  | stop => intro s0 _ _ hL y s2 e; cases e; exact hL.1
  | @empty s hst =>
    intro s0 hS _ hL y s2 e
    have hL : s0 = s.ar := hL
    subst hL
    have hgr := addS_grow e
    have hrm := addS_room' e
    have hk := addS_ok (p := p) (n := leafNd 0 noP) hS (okNd.leaf (.inl rfl))
    rw [e] at hk
    have hwf : WF (s.ns ++ [leafNd 0 noP]) := by rw [← hgr.2.2.1]; exact hk.1.wf
    have := emptyP (k := k) (s := s.ar) hwf hrm
    unfold Sg.ar at this ⊢
    rw [hgr.2.2.1, hgr.2.1, hgr.2.2.2]
    exact this
  | err => intro s0 _ _ _ y s2 e; cases e
  | big => intro s0 _ _ _ y s2 e; cases e
  | @more l s s1 s2 x y r hst hr hj _ ih =>
    intro s0 hS hl hL z s3 e
    have hi := stopB_lt hst
    have hR := repR_main hA hok hr hS hi x s1 rfl
    have hk1 := RepR.fine hok hr hS hi
    have hgrow := RepR.grow hG hr x s1 rfl
    obtain ⟨hS1, hx1⟩ := hk1
    have hjo := joinN_ok (l := l) hS1 hx1 (fun j hj => by have h1 := hl j hj; obtain ⟨t, ht⟩ := hgrow; rw [ht]; simp; omega)
    rw [hj] at hjo
    obtain ⟨hS2, hy2⟩ := hjo
    refine ih s0 hS2 (fun j hj => by cases hj; exact hy2) ?_ z s3 e
    cases l with
    | none =>
      have hL : s0 = s.ar := hL
      subst hL
      cases hj
      exact ⟨hR.c (by show x < s1.ns.length; omega), hR.c2, hR.h2⟩
    | some j =>
      obtain ⟨hC, hH, hHd⟩ := hL
      have hadd : addS s1 (catNd j x) = .ok (y, s2) := hj
      have hgr := addS_grow hadd
      have hrm := addS_room' hadd
      have hjl := hl j rfl
      have hwf : WF (s1.ns ++ [catNd j x]) := by rw [← hgr.2.2.1]; exact hS2.wf
      have := catP (s1 := s.ar) (s2 := s1.ar) hH hHd hR (by show j < s.ns.length; omega) (by show x < s1.ns.length; omega) hgrow hS.wf hS1.wf hwf hrm
      have hcp : CP k s0 y s2.ar := by
        unfold Sg.ar at this ⊢
        rw [hgr.2.2.1, hgr.2.1, hgr.2.2.2]
        exact this
      have hne : (s2.ar.ns[y]'hcp.hx).kind ≠ 0 := by
        have h1 : s2.ns = s1.ns ++ [catNd j x] := hgr.2.2.1
        have h2 : y = s1.ns.length := hgr.2.2.2
        subst h2
        have : s2.ar.ns[s1.ns.length]'hcp.hx = catNd j x := by
          show s2.ns[s1.ns.length]'hcp.hx = catNd j x
          simp only [h1]
          simp
        rw [this]
        simp [catNd]
      exact ⟨hcp, (hcp.c2 hne).1, (hcp.c2 hne).2⟩
theorem alt_main (hA : AltP p k A) (hok : AltOk p A) (hG : AltG A) {l : Nat} {s : Sg} {r : Res} (h : AltL p d A l s r) : ∀ s0, SgOk p s → l + 1 = s.ns.length → QP k s0 l s.ar → ∀ y s2, r = .ok (y, s2) → QP k s0 y s2.ar := by
  induction h with
  | stop => intro s0 _ _ hL y s2 e; cases e; exact hL
  | err => intro s0 _ _ _ y s2 e; cases e
  | big => intro s0 _ _ _ y s2 e; cases e
  | @more l x y s s1 s2 r hb hc ha _ ih =>
    intro s0 hS hl hL z s3 e
    have hlt := (isB_lt hb).1
    have hS' : SgOk p ⟨s.i + 1, s.ns, s.g⟩ := ⟨hS.wf, hS.len, hS.g, hlt⟩
    have hC := cat_main hA hok hG hc s.ar hS' (fun j hj => by cases hj) rfl x s1 rfl
    obtain ⟨hS1, hx1⟩ := CatL.fine hok hG hc hS' (fun j hj => by cases hj)
    have hgrow := CatL.grow hG hc x s1 rfl
    have hgr := addS_grow ha
    have hrm := addS_room' ha
    have hko := addS_ok (p := p) (n := altNd l x) hS1 (okNd.alt (by obtain ⟨t, ht⟩ := hgrow; rw [ht]; simp; omega) (by omega))
    rw [ha] at hko
    obtain ⟨hS2, hy2⟩ := hko
    have hwf : WF (s1.ns ++ [altNd l x]) := by rw [← hgr.2.2.1]; exact hS2.wf
    have := altP (s1 := s.ar) (s2 := s1.ar) hL.a0 hC.t1 (by show l < s.ns.length; omega) (by show x < s1.ns.length; omega) hgrow hS.wf hS1.wf hwf hrm
    refine ih s0 hS2 hy2 ?_ z s3 e
    unfold Sg.ar at this ⊢
    rw [hgr.2.2.1, hgr.2.1, hgr.2.2.2]
    exact this
theorem altR_main (hA : AltP p k A) (hok : AltOk p A) (hG : AltG A) : ∀ s x s', AltR p d A s (.ok (x, s')) → SgOk p s → QP k s.ar x s'.ar := by
  intro s x s' h hS
  cases h with
  | ok hc hl =>
    obtain ⟨hS1, hx1⟩ := CatL.fine hok hG hc hS (fun j hj => by cases hj)
    have hC := cat_main hA hok hG hc s.ar hS (fun j hj => by cases hj) rfl _ _ rfl
    exact alt_main hA hok hG hl s.ar hS1 hx1 hC.q x s' rfl
end
theorem altD_main (p : ByteArray) : ∀ k s x s', AltD p k s (.ok (x, s')) → SgOk p s → QP k s.ar x s'.ar
  | 0 => altR_main (A := fun _ _ => False) (fun _ _ _ h => h.elim) (fun _ _ h => h.elim) (fun _ _ h => h.elim)
  | k + 1 => altR_main (A := AltD p k) (fun s x s' h hS => ⟨k, rfl, altD_main p k s x s' h hS⟩) (AltD.fine p k) (AltD.grow p k)
/-- THE ROUND TRIP: a text that is the print of a tree is read as that tree. -/
theorem round_trip {p q : ByteArray} {ns : List Nd} {x g : Nat} (h : ModelR p (.ok (ns, x, g))) (hq : At q 0 (pr ns x 0)) (hs : q.size = (pr ns x 0).length) : ModelR q (.ok (ns.map nm, x, g)) := by
  cases h with
  | @ok _ s ha hsz =>
    have hQ := altD_main p 5 _ _ _ ha (sgOk0 p)
    have hstop : stopB q (0 + (pr s.ns x 0).length) = true := by simp [stopB, hs]
    have hbar : isB q (0 + (pr s.ns x 0).length) 124 = false := by simp [isB, hs]
    have hin : AltD q 5 ⟨0, [], 0⟩ (.ok (x, s.ar.at (0 + (pr s.ns x 0).length))) := by
      rw [altD_eq]
      exact hQ.a0 5 (Nat.le_refl _) (Nat.le_refl _) q 0 hq hstop _ (AltL.stop hbar)
    exact ModelR.ok hin (by show q.size ≤ 0 + (pr s.ns x 0).length; omega)
end Go.Proofs.Qxb6500287a
