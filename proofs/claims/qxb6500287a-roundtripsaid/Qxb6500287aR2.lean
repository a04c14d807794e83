import Derived.Test.Qxb6500287aR1
namespace Go.Proofs.Qxb6500287a

/-! What a text is read as. -/
def lower (q : ByteArray) : Nat → Sg → Res → Prop
  | 0 => fun _ _ => False
  | k + 1 => AltD q k
theorem altD_eq (q : ByteArray) (k : Nat) : AltD q k = AltR q (5 - k) (lower q k) := by
  cases k <;> rfl
def mp (ns : List Nd) : List Nd := ns.map nm
theorem mp_app (a b : List Nd) : mp (a ++ b) = mp a ++ mp b := by simp [mp]
theorem mp_len (a : List Nd) : (mp a).length = a.length := by simp [mp]
def NS (q : ByteArray) (i : Nat) : Prop := i < q.size → signB (bt q i) = false
theorem NS.q {q : ByteArray} {i : Nat} (h : NS q i) : isB q i 63 = false := by
  cases hb : isB q i 63 with
  | false => rfl
  | true =>
    have h1 := isB_lt hb
    have h2 := h h1.1
    rw [h1.2] at h2
    cases h2
theorem stopB_ns {q : ByteArray} {i : Nat} (h : stopB q i = true) : NS q i := by
  intro hi
  simp [stopB, hi] at h
  rcases h with h | h <;> rw [h] <;> rfl
/-- A text that starts an item. -/
def Head (T : List Nat) : Prop := ∃ c l, T = c :: l ∧ (c = 91 ∨ c = 94 ∨ c = 36 ∨ c = 40)
theorem Head.app {a : List Nat} (h : Head a) (b : List Nat) : Head (a ++ b) := by
  obtain ⟨c, l, rfl, hc⟩ := h
  exact ⟨c, l ++ b, rfl, hc⟩
theorem Head.facts {q : ByteArray} {i : Nat} {T : List Nat} (h : Head T) (ha : At q i T) : i < q.size ∧ stopB q i = false ∧ NS q i ∧ bt q i ≠ 63 := by
  obtain ⟨c, l, rfl, hc⟩ := h
  simp only [At] at ha
  obtain ⟨⟨h1, h2⟩, _⟩ := ha
  refine ⟨h1, ?_, ?_, ?_⟩
  · simp [stopB, h1, h2]; omega
  · intro _; rw [h2]; rcases hc with rfl | rfl | rfl | rfl <;> rfl
  · rw [h2]; omega
structure Ar where
  ns : List Nd
  g : Nat
def Ar.at (a : Ar) (i : Nat) : Sg := ⟨i, mp a.ns, a.g⟩
def RepH (k : Nat) (T : List Nat) (s : Ar) (x : Nat) (s' : Ar) : Prop := ∀ k', k ≤ k' → k' ≤ 5 → ∀ q i, At q i T → isB q (i + T.length) 63 = false → ∀ res, RepL q x (s'.at (i + T.length)) res → RepR q (5 - k') (lower q k') (s.at i) res
def CatH (k : Nat) (T : List Nat) (s : Ar) (x : Nat) (s' : Ar) : Prop := ∀ k', k ≤ k' → k' ≤ 5 → ∀ q i, At q i T → NS q (i + T.length) → ∀ res, CatL q (5 - k') (lower q k') (some x) (s'.at (i + T.length)) res → CatL q (5 - k') (lower q k') none (s.at i) res
def CatT (k : Nat) (T : List Nat) (s : Ar) (x : Nat) (s' : Ar) : Prop := ∀ k', k ≤ k' → k' ≤ 5 → ∀ q i, At q i T → stopB q (i + T.length) = true → CatL q (5 - k') (lower q k') none (s.at i) (.ok (x, s'.at (i + T.length)))
def AltH (k : Nat) (T : List Nat) (s : Ar) (x : Nat) (s' : Ar) : Prop := ∀ k', k ≤ k' → k' ≤ 5 → ∀ q i, At q i T → stopB q (i + T.length) = true → ∀ res, AltL q (5 - k') (lower q k') x (s'.at (i + T.length)) res → AltR q (5 - k') (lower q k') (s.at i) res
section
variable {k : Nat} {T : List Nat} {s s' : Ar} {x : Nat}
theorem RepH.up (h : RepH k T s x s') : RepH (k + 1) T s x s' := fun k' h1 h2 => h k' (by omega) h2
theorem CatH.up (h : CatH k T s x s') : CatH (k + 1) T s x s' := fun k' h1 h2 => h k' (by omega) h2
theorem CatT.up (h : CatT k T s x s') : CatT (k + 1) T s x s' := fun k' h1 h2 => h k' (by omega) h2
theorem AltH.up (h : AltH k T s x s') : AltH (k + 1) T s x s' := fun k' h1 h2 => h k' (by omega) h2
theorem RepH.cat (h : RepH k T s x s') (hh : Head T) : CatH k T s x s' := fun k' h1 h2 q i ha hn res hc => by
  have hf := hh.facts ha
  have hr : RepR q (5 - k') (lower q k') (s.at i) (.ok (x, s'.at (i + T.length))) := h k' h1 h2 q i ha hn.q _ (RepL.done hn)
  exact CatL.more hf.2.1 hr rfl hc
theorem CatH.top (h : CatH k T s x s') : CatT k T s x s' := fun k' h1 h2 q i ha hs => h k' h1 h2 q i ha (stopB_ns hs) _ (CatL.stop hs)
theorem CatT.alt (h : CatT k T s x s') : AltH k T s x s' := fun k' h1 h2 q i ha hs _ hl => AltR.ok (h k' h1 h2 q i ha hs) hl
/-- Within '(?:' and ')'. -/
theorem AltH.wrap (h : AltH k T s x s') : RepH (k + 1) (wrapT true T) s x s' := fun k' h1 h2 q i ha hn res hl => by
  simp only [wrapT, if_true] at ha hn hl
  rw [At.app, At.app] at ha
  obtain ⟨⟨ha1, ha2⟩, ha3⟩ := ha
  simp only [At, List.length_cons, List.length_nil] at ha1 ha2
  obtain ⟨⟨p0, e0⟩, ⟨p1, e1⟩, ⟨p2, e2⟩, _⟩ := ha1
  simp only [List.length_append, List.length_cons, List.length_nil] at ha3 hn hl
  rw [show i + (3 + T.length) = i + 3 + T.length by omega] at ha3
  simp only [At] at ha3
  obtain ⟨⟨p3, e3⟩, _⟩ := ha3
  obtain ⟨m, rfl⟩ : ∃ m, k' = m + 1 := ⟨k' - 1, by omega⟩
  have hfree : freeB q i = true := by simp [freeB, show i + 2 < q.size by omega, e1, e2]
  have hopen : openS q (s.at i) = some (0, s.at (i + 3)) := by
    unfold openS
    rw [if_pos (show freeB q (s.at i).i = true from hfree)]
    rfl
  have hbar : isB q (i + 3 + T.length) 124 = false := by simp [isB, e3]
  have hstop : stopB q (i + 3 + T.length) = true := by simp [stopB, e3]
  have hin : AltD q m (s.at (i + 3)) (.ok (x, s'.at (i + 3 + T.length))) := by
    rw [altD_eq]
    exact h m (by omega) (by omega) q (i + 3) (by simpa using ha2) hstop _ (AltL.stop hbar)
  have hshut := GroupR.shut (p := q) (d := 5 - (m + 1)) (A := AltD q m) (by omega) hopen hin (show isB q (i + 3 + T.length) 41 = true by simp [isB, e3, p3])
  have hat : AtomR q (5 - (m + 1)) (lower q (m + 1)) (s.at i) (.ok (x, s'.at (i + 3 + T.length + 1))) := AtomR.group e0 hshut
  rw [show i + (3 + T.length + 1) = i + 3 + T.length + 1 by omega] at hl
  exact RepR.ok hat hl
end
/-- What every item gives. -/
structure RP (k : Nat) (s : Ar) (x : Nat) (s' : Ar) : Prop where
  r3 : RepH k (pr s'.ns x 3) s x s'
  h3 : Head (pr s'.ns x 3)
  r4 : RepH k (pr s'.ns x 4) s x s'
  h4 : Head (pr s'.ns x 4)
  c2 : CatH k (pr s'.ns x 2) s x s'
  h2 : Head (pr s'.ns x 2)
  t1 : CatT k (pr s'.ns x 1) s x s'
  a0 : AltH k (pr s'.ns x 0) s x s'
/-- What a whole alternative gives. -/
structure QP (k : Nat) (s : Ar) (x : Nat) (s' : Ar) : Prop where
  hx : x < s'.ns.length
  a0 : AltH k (pr s'.ns x 0) s x s'
  t1 : s'.ns[x].kind ≠ 5 → CatT k (pr s'.ns x 1) s x s'
  c2 : s'.ns[x].kind ≠ 5 → s'.ns[x].kind ≠ 0 → CatH k (pr s'.ns x 2) s x s' ∧ Head (pr s'.ns x 2)
  r : s'.ns[x].kind ≠ 5 → s'.ns[x].kind ≠ 4 → s'.ns[x].kind ≠ 0 → RepH k (pr s'.ns x 3) s x s' ∧ Head (pr s'.ns x 3) ∧ RepH k (pr s'.ns x 4) s x s' ∧ Head (pr s'.ns x 4)
theorem head_wrap (T : List Nat) : Head (wrapT true T) := ⟨40, _, rfl, by simp⟩
theorem RP.one {k : Nat} {s s' : Ar} {x : Nat} {T : List Nat} (hwf : WF s'.ns) (hx : x < s'.ns.length) (h5 : s'.ns[x].kind ≠ 5) (h4 : s'.ns[x].kind ≠ 4) (h0 : s'.ns[x].kind ≠ 0) (hT : bodyT (pr s'.ns) s'.ns[x] = T) (h : RepH k T s x s') (hh : Head T) : RP k s x s' := by
  have e : ∀ pl, pr s'.ns x pl = T := fun pl => by
    rw [pr_eq hwf hx, hT]
    simp [wrapT, wantsB, h5, h4, h0]
  exact ⟨by rw [e]; exact h, by rw [e]; exact hh, by rw [e]; exact h, by rw [e]; exact hh, by rw [e]; exact h.cat hh, by rw [e]; exact hh, by rw [e]; exact (h.cat hh).top, by rw [e]; exact (h.cat hh).top.alt⟩
theorem QP.up {k : Nat} {s s' : Ar} {x : Nat} (hwf : WF s'.ns) (h : QP k s x s') : RP (k + 1) s x s' := by
  have hx := h.hx
  have e := fun pl => pr_eq hwf hx pl
  by_cases h5 : s'.ns[x].kind = 5
  · have e0 : pr s'.ns x 0 = bodyT (pr s'.ns) s'.ns[x] := by rw [e]; simp [wrapT, wantsB, h5]
    have hw := h.a0.wrap
    rw [e0] at hw
    have f : ∀ pl, pl = 1 ∨ pl = 2 ∨ pl = 3 ∨ pl = 4 → pr s'.ns x pl = wrapT true (bodyT (pr s'.ns) s'.ns[x]) := fun pl hp => by
      rw [e]
      rcases hp with rfl | rfl | rfl | rfl <;> simp [wantsB, h5]
    have hh := head_wrap (bodyT (pr s'.ns) s'.ns[x])
    exact ⟨by rw [f 3 (by omega)]; exact hw, by rw [f 3 (by omega)]; exact hh, by rw [f 4 (by omega)]; exact hw, by rw [f 4 (by omega)]; exact hh, by rw [f 2 (by omega)]; exact hw.cat hh, by rw [f 2 (by omega)]; exact hh, by rw [f 1 (by omega)]; exact (hw.cat hh).top, h.a0.up⟩
  by_cases h0 : s'.ns[x].kind = 0
  · have e0 : pr s'.ns x 0 = bodyT (pr s'.ns) s'.ns[x] := by rw [e]; simp [wrapT, wantsB, h0]
    have hw := h.a0.wrap
    rw [e0] at hw
    have f : ∀ pl, pl = 2 ∨ pl = 3 ∨ pl = 4 → pr s'.ns x pl = wrapT true (bodyT (pr s'.ns) s'.ns[x]) := fun pl hp => by
      rw [e]
      rcases hp with rfl | rfl | rfl <;> simp [wantsB, h0]
    have hh := head_wrap (bodyT (pr s'.ns) s'.ns[x])
    exact ⟨by rw [f 3 (by omega)]; exact hw, by rw [f 3 (by omega)]; exact hh, by rw [f 4 (by omega)]; exact hw, by rw [f 4 (by omega)]; exact hh, by rw [f 2 (by omega)]; exact hw.cat hh, by rw [f 2 (by omega)]; exact hh, (h.t1 h5).up, h.a0.up⟩
  by_cases h4 : s'.ns[x].kind = 4
  · have e0 : pr s'.ns x 0 = bodyT (pr s'.ns) s'.ns[x] := by rw [e]; simp [wrapT, wantsB, h4]
    have hw := h.a0.wrap
    rw [e0] at hw
    have f : ∀ pl, pl = 3 ∨ pl = 4 → pr s'.ns x pl = wrapT true (bodyT (pr s'.ns) s'.ns[x]) := fun pl hp => by
      rw [e]
      rcases hp with rfl | rfl <;> simp [wantsB, h4]
    have hh := head_wrap (bodyT (pr s'.ns) s'.ns[x])
    exact ⟨by rw [f 3 (by omega)]; exact hw, by rw [f 3 (by omega)]; exact hh, by rw [f 4 (by omega)]; exact hw, by rw [f 4 (by omega)]; exact hh, (h.c2 h5 h0).1.up, (h.c2 h5 h0).2, (h.t1 h5).up, h.a0.up⟩
  · obtain ⟨r3, k3, r4, k4⟩ := h.r h5 h4 h0
    exact ⟨r3.up, k3, r4.up, k4, (h.c2 h5 h0).1.up, (h.c2 h5 h0).2, (h.t1 h5).up, h.a0.up⟩
/-- What a concatenation gives. -/
structure CP (k : Nat) (s : Ar) (x : Nat) (s' : Ar) : Prop where
  hx : x < s'.ns.length
  a0 : AltH k (pr s'.ns x 0) s x s'
  t1 : CatT k (pr s'.ns x 1) s x s'
  c2 : s'.ns[x].kind ≠ 0 → CatH k (pr s'.ns x 2) s x s' ∧ Head (pr s'.ns x 2)
  r : s'.ns[x].kind ≠ 5 → s'.ns[x].kind ≠ 4 → s'.ns[x].kind ≠ 0 → RepH k (pr s'.ns x 3) s x s' ∧ Head (pr s'.ns x 3) ∧ RepH k (pr s'.ns x 4) s x s' ∧ Head (pr s'.ns x 4)
theorem CP.q {k : Nat} {s s' : Ar} {x : Nat} (h : CP k s x s') : QP k s x s' := ⟨h.hx, h.a0, fun _ => h.t1, fun _ h0 => h.c2 h0, h.r⟩
/-! The nodes, one by one. -/
theorem addS_at {ns : List Nd} {g j : Nat} (nd : Nd) (h : ns.length < 24) (e : nm nd = nd) : addS ((⟨ns, g⟩ : Ar).at j) nd = .ok (ns.length, (⟨ns ++ [nd], g⟩ : Ar).at j) := by
  unfold addS Ar.at
  simp only [mp_len]
  rw [if_neg (by omega)]
  simp [mp, e]
theorem leafP {k : Nat} {s : Ar} {kd : Int} {P : BSet} {p : ByteArray} {i j : Nat} (hl : LeafR p i (.ok (kd, P, j))) (hwf : WF (s.ns ++ [leafNd kd P])) (h24 : s.ns.length < 24) : RP k s s.ns.length ⟨s.ns ++ [leafNd kd P], s.g⟩ := by
  have hx : s.ns.length < (s.ns ++ [leafNd kd P]).length := by simp
  have hg : (s.ns ++ [leafNd kd P])[s.ns.length] = leafNd kd P := by simp
  have hk : kd = 1 ∨ (kd = 2 ∧ P = noP) ∨ (kd = 3 ∧ P = noP) := by
    cases hl <;> simp
  have main : ∀ T, bodyT (pr (s.ns ++ [leafNd kd P])) (leafNd kd P) = T → Head T → (∀ q i, At q i T → bt q i ≠ 40 ∧ LeafR q i (.ok (kd, nmS P, i + T.length))) → RP k s s.ns.length ⟨s.ns ++ [leafNd kd P], s.g⟩ := by
    intro T hT hH hL
    refine RP.one (T := T) hwf hx ?_ ?_ ?_ ?_ ?_ hH
    · show (s.ns ++ [leafNd kd P])[s.ns.length].kind ≠ 5
      rw [hg]; simp only [leafNd]; omega
    · show (s.ns ++ [leafNd kd P])[s.ns.length].kind ≠ 4
      rw [hg]; simp only [leafNd]; omega
    · show (s.ns ++ [leafNd kd P])[s.ns.length].kind ≠ 0
      rw [hg]; simp only [leafNd]; omega
    · show bodyT (pr (s.ns ++ [leafNd kd P])) (s.ns ++ [leafNd kd P])[s.ns.length] = T
      rw [hg]; exact hT
    · intro k' _ _ q i ha hn res hr
      obtain ⟨h40, hlf⟩ := hL q i ha
      have hf := hH.facts ha
      have hat := AtomR.leaf (d := 5 - k') (A := lower q k') (s := s.at i) h40 (hf.2.2.1 hf.1) hlf
      have he : addS ⟨i + T.length, (s.at i).ns, (s.at i).g⟩ (leafNd kd (nmS P)) = .ok (s.ns.length, (⟨s.ns ++ [leafNd kd P], s.g⟩ : Ar).at (i + T.length)) := by
        unfold addS Ar.at
        simp only [mp_len]
        rw [if_neg (by omega)]
        simp [mp, nm, leafNd]
      rw [he] at hat
      exact RepR.ok hat hr
  rcases hk with rfl | ⟨rfl, rfl⟩ | ⟨rfl, rfl⟩
  · refine main (setT P) (by simp [bodyT, leafNd]) ⟨91, _, rfl, by simp⟩ fun q i ha => ⟨?_, leaf_set P ha⟩
    unfold setT at ha
    simp only [At] at ha
    rw [ha.1.2]; omega
  · refine main [94] (by simp [bodyT, leafNd]) ⟨94, _, rfl, by simp⟩ fun q i ha => ⟨?_, ?_⟩
    · simp only [At] at ha; rw [ha.1.2]; omega
    · rw [nmS_no]; simp only [At] at ha; exact LeafR.bgn ha.1.2
  · refine main [36] (by simp [bodyT, leafNd]) ⟨36, _, rfl, by simp⟩ fun q i ha => ⟨?_, ?_⟩
    · simp only [At] at ha; rw [ha.1.2]; omega
    · rw [nmS_no]; simp only [At] at ha; exact LeafR.end_ ha.1.2
theorem emptyP {k : Nat} {s : Ar} (hwf : WF (s.ns ++ [leafNd 0 noP])) (h24 : s.ns.length < 24) : CP k s s.ns.length ⟨s.ns ++ [leafNd 0 noP], s.g⟩ := by
  have hx : s.ns.length < (s.ns ++ [leafNd 0 noP]).length := by simp
  have hg : (s.ns ++ [leafNd 0 noP])[s.ns.length] = leafNd 0 noP := by simp
  have e : ∀ pl, pl = 0 ∨ pl = 1 → pr (s.ns ++ [leafNd 0 noP]) s.ns.length pl = [] := fun pl hp => by
    rw [pr_eq hwf hx, hg]
    rcases hp with rfl | rfl <;> simp [wrapT, wantsB, bodyT, leafNd]
  have ht : CatT k [] s s.ns.length ⟨s.ns ++ [leafNd 0 noP], s.g⟩ := by
    intro k' _ _ q i _ hs
    simp only [List.length_nil, Nat.add_zero] at hs ⊢
    have := CatL.empty (p := q) (d := 5 - k') (A := lower q k') (s := s.at i) hs
    rw [addS_at (ns := s.ns) (g := s.g) _ h24 (by simp [nm, leafNd, nmS_no])] at this
    exact this
  refine ⟨hx, by rw [e 0 (by omega)]; exact ht.alt, by rw [e 1 (by omega)]; exact ht, fun h => ?_, fun _ _ h => ?_⟩
  · exact absurd (show (s.ns ++ [leafNd 0 noP])[s.ns.length].kind = 0 by rw [hg]; rfl) h
  · exact absurd (show (s.ns ++ [leafNd 0 noP])[s.ns.length].kind = 0 by rw [hg]; rfl) h
end Go.Proofs.Qxb6500287a
