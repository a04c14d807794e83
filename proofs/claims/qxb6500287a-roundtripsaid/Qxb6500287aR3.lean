import Derived.Test.Qxb6500287aR2
namespace Go.Proofs.Qxb6500287a

/-! Numbers and braces. -/
theorem num_one {q : ByteArray} {i v : Nat} (hv : v ≤ 3) (h1 : i + 1 < q.size) (e0 : bt q i = 48 + v) (e1 : digB (bt q (i + 1)) = false) : num q i = ((v : Int), i + 1) := by
  unfold num
  obtain ⟨f, hf⟩ : ∃ f, q.size - i = f + 1 + 1 := ⟨q.size - i - 2, by omega⟩
  rw [hf]
  have hd : digB (bt q i) = true := by rw [e0]; simp [digB]; omega
  have hc : clip ((if (-1 : Int) < 0 then 0 else -1) * 10 + ((bt q i : Int) - 48)) = (v : Int) := by
    rw [e0]
    unfold clip
    split <;> simp <;> omega
  simp only [numF, hd, if_true, hc, e1]
  simp
theorem num_none {q : ByteArray} {i : Nat} (e0 : digB (bt q i) = false) : num q i = (-1, i) := by
  unfold num
  cases q.size - i with
  | zero => rfl
  | succ f => simp [numF, e0]
theorem braces {q : ByteArray} {j : Nat} {lo hi : Int} {lz : Bool} (h0 : 0 ≤ lo) (h1 : lo ≤ 3) (h2 : -1 ≤ hi) (h3 : hi ≤ 3) (h4 : 0 ≤ hi → lo ≤ hi) (ha : At q j (repT lo hi lz)) (hn : isB q (j + (repT lo hi lz).length) 63 = false) :
    j < q.size ∧ bt q j = 123 ∧ ∃ j', count q j = some (lo, hi, j') ∧ lazyEnd q j' = j + (repT lo hi lz).length ∧ isB q j' 63 = lz := by
  unfold repT at ha hn ⊢
  obtain ⟨a, rfl⟩ : ∃ a : Nat, lo = a := ⟨lo.toNat, by omega⟩
  simp only [Int.toNat_natCast] at ha hn ⊢
  have hcount : ∀ j', brace q j = some ((a : Int), hi, j') → bt q j = 123 → count q j = some ((a : Int), hi, j') := fun j' hb he => by
    unfold count
    rw [he]
    simpa using hb
  have hlz : ∀ j' n, j' + (if lz then [63] else [] : List Nat).length = n → At q j' (if lz then [63] else []) → isB q n 63 = false → lazyEnd q j' = n ∧ isB q j' 63 = lz := fun j' n hl ht hnn => by
    cases lz with
    | true =>
      simp only [if_true, At] at ht
      have hb : isB q j' 63 = true := by simp [isB, ht.1]
      refine ⟨?_, hb⟩
      unfold lazyEnd
      rw [hb]
      simpa using hl
    | false =>
      simp at hl
      subst hl
      refine ⟨?_, hnn⟩
      unfold lazyEnd
      rw [hnn]
      simp
  by_cases hh : 0 ≤ hi
  · obtain ⟨b, rfl⟩ : ∃ b : Nat, hi = b := ⟨hi.toNat, by omega⟩
    simp only [Int.toNat_natCast] at ha hn hcount ⊢
    rw [if_pos hh] at ha hn ⊢
    simp only [List.cons_append, List.nil_append, At] at ha
    obtain ⟨⟨p0, e0⟩, ⟨p1, e1⟩, ⟨p2, e2⟩, ⟨p3, e3⟩, ⟨p4, e4⟩, ht⟩ := ha
    have n1 : num q (j + 1) = ((a : Int), j + 2) := num_one (by omega) p2 e1 (by rw [e2]; rfl)
    have n2 : num q (j + 3) = ((b : Int), j + 4) := num_one (by omega) p4 e3 (by rw [show j + 3 + 1 = j + 1 + 1 + 1 + 1 by omega, e4]; rfl)
    have hb : brace q j = some ((a : Int), (b : Int), j + 5) := by
      unfold brace
      simp only [n1]
      have hh1 : hiOf q (a : Int) (j + 2) = ((b : Int), j + 4) := by
        unfold hiOf
        rw [if_pos (by simp [isB, show j + 2 = j + 1 + 1 by omega, e2, p2]), show j + 2 + 1 = j + 3 by omega, n2]
      simp only [hh1]
      have hok : braceOk q (a : Int) (b : Int) (j + 4) = true := by
        have : isB q (j + 4) 125 = true := by simp [isB, show j + 4 = j + 1 + 1 + 1 + 1 by omega, e4, p4]
        simp only [braceOk, this]
        simp; omega
      rw [if_pos hok]
    refine ⟨p0, e0, j + 5, hcount _ hb e0, ?_⟩
    refine hlz (j + 5) _ ?_ (by simpa using ht) hn
    simp; omega
  · obtain rfl : hi = -1 := by omega
    rw [if_neg hh] at ha hn ⊢
    simp only [List.cons_append, List.nil_append, List.append_nil, At] at ha
    obtain ⟨⟨p0, e0⟩, ⟨p1, e1⟩, ⟨p2, e2⟩, ⟨p3, e3⟩, ht⟩ := ha
    have n1 : num q (j + 1) = ((a : Int), j + 2) := num_one (by omega) p2 e1 (by rw [e2]; rfl)
    have n2 : num q (j + 3) = (-1, j + 3) := num_none (by rw [show j + 3 = j + 1 + 1 + 1 by omega, e3]; rfl)
    have hb : brace q j = some ((a : Int), -1, j + 4) := by
      unfold brace
      simp only [n1]
      have hh1 : hiOf q (a : Int) (j + 2) = (-1, j + 3) := by
        unfold hiOf
        rw [if_pos (by simp [isB, show j + 2 = j + 1 + 1 by omega, e2, p2]), show j + 2 + 1 = j + 3 by omega, n2]
      simp only [hh1]
      have hok : braceOk q (a : Int) (-1) (j + 3) = true := by
        have : isB q (j + 3) 125 = true := by simp [isB, show j + 3 = j + 1 + 1 + 1 by omega, e3, p3]
        simp only [braceOk, this]
        simp; omega
      rw [if_pos hok]
    refine ⟨p0, e0, j + 4, hcount _ hb e0, ?_⟩
    refine hlz (j + 4) _ ?_ (by simpa using ht) hn
    simp; omega
/-! No text starts with '?'. -/
def No63 (l : List Nat) : Prop := ∀ r, l ≠ 63 :: r
theorem No63.app {a b : List Nat} (ha : No63 a) (hb : No63 b) : No63 (a ++ b) := by
  intro r h
  cases a with
  | nil => exact hb r h
  | cons c a => simp at h; exact ha a (by rw [h.1])
theorem no63 {ns : List Nd} (hwf : WF ns) : ∀ x, x < ns.length → ∀ pl, No63 (pr ns x pl) := by
  intro x
  induction x using Nat.strongRecOn with
  | ind x ih =>
    intro hx pl
    rw [pr_eq hwf hx]
    have hok := hwf x hx
    have hlit : ∀ c l, c ≠ 63 → No63 (c :: l) := fun c l hc r h => by simp at h; exact hc h.1
    have hb : No63 (bodyT (pr ns) ns[x]) := by
      unfold bodyT
      rcases hok with ⟨hk, _, _⟩ | ⟨hk, h1, h2, h3, h4⟩ | ⟨hk, h1, h2, _⟩
      · rcases hk with hk | hk | hk | hk <;> simp only [hk] <;> simp
        · exact fun r h => by cases h
        · exact hlit _ _ (by omega)
        · exact hlit _ _ (by omega)
        · exact hlit _ _ (by omega)
      · rcases hk with hk | hk <;> simp only [hk] <;> simp
        · exact (ih _ (by omega) (by omega) _).app (ih _ (by omega) (by omega) _)
        · exact (ih _ (by omega) (by omega) _).app (hlit _ _ (by omega))
      · rcases hk with hk | hk <;> simp only [hk] <;> simp
        · exact (ih _ (by omega) (by omega) _).app (by unfold repT; exact hlit _ _ (by omega))
        · exact hlit _ _ (by omega)
    cases wantsB ns[x].kind pl with
    | true => exact hlit _ _ (by omega)
    | false => exact hb
theorem No63.at {q : ByteArray} {i : Nat} {l : List Nat} (h : No63 l) (hl : l ≠ []) (ha : At q i l) : bt q i ≠ 63 := by
  cases l with
  | nil => exact absurd rfl hl
  | cons c l =>
    simp only [At] at ha
    intro e
    exact h l (by rw [← ha.1.2, e])
/-! The inner nodes. -/
theorem get_last (ns : List Nd) (n : Nd) (h : ns.length < (ns ++ [n]).length) : (ns ++ [n])[ns.length] = n := by simp
theorem repP {k : Nat} {s : Ar} {ns : List Nd} {g x : Nat} {lo hi : Int} {lz : Bool} (h : RP k s x ⟨ns, g⟩) (hx : x < ns.length) (hw : WF ns) (hwf : WF (ns ++ [repNd x lo hi lz])) (h24 : ns.length < 24)
    (h0 : 0 ≤ lo) (h1 : lo ≤ 3) (h2 : -1 ≤ hi) (h3 : hi ≤ 3) (h4 : 0 ≤ hi → lo ≤ hi) (hn : ¬ (hi < 0 ∧ nul ns x = true)) : RP k s ns.length ⟨ns ++ [repNd x lo hi lz], g⟩ := by
  have hx' : ns.length < (ns ++ [repNd x lo hi lz]).length := by simp
  have hg := get_last ns (repNd x lo hi lz) hx'
  refine RP.one (T := pr ns x 4 ++ repT lo hi lz) hwf hx' ?_ ?_ ?_ ?_ ?_ (h.h4.app _)
  · show (ns ++ [repNd x lo hi lz])[ns.length].kind ≠ 5
    rw [hg]; simp [repNd]
  · show (ns ++ [repNd x lo hi lz])[ns.length].kind ≠ 4
    rw [hg]; simp [repNd]
  · show (ns ++ [repNd x lo hi lz])[ns.length].kind ≠ 0
    rw [hg]; simp [repNd]
  · show bodyT (pr (ns ++ [repNd x lo hi lz])) (ns ++ [repNd x lo hi lz])[ns.length] = _
    rw [hg]
    simp [bodyT, repNd]
    rw [show ns ++ [(⟨6, (x : Int), -1, lo, hi, 0, lz, noP⟩ : Nd)] = ns ++ [repNd x lo hi lz] from rfl, pr_grow _ hw hwf x hx]
  · intro k' hk1 hk2 q i ha hq res hr
    rw [At.app] at ha
    rw [List.length_append, ← Nat.add_assoc] at hq hr
    obtain ⟨p0, e0, j', hc, hle, hb⟩ := braces h0 h1 h2 h3 h4 ha.2 hq
    have hsg : signB (bt q (i + (pr ns x 4).length)) = true := by rw [e0]; rfl
    refine h.r4 k' hk1 hk2 q i ha.1 (by simp [isB, e0]) res ?_
    refine RepL.more (x := x) (s := (⟨ns, g⟩ : Ar).at (i + (pr ns x 4).length)) p0 hsg hc (by simp only [Ar.at, mp]; rw [nul_nm]; exact hn) ?_ hr
    rw [hb]
    have := addS_at (ns := ns) (g := g) (j := lazyEnd q j') (repNd x lo hi lz) h24 (nm_rep _ _ _ _)
    rw [hle] at this ⊢
    exact this
theorem grpP {k : Nat} {ns ns2 : List Nd} {g g2 x : Nat} (h : QP k ⟨ns, g + 1⟩ x ⟨ns2, g2⟩) (hg3 : g < 3) (hw : WF ns2) (hwf : WF (ns2 ++ [grpNd x (g + 1)])) (h24 : ns2.length < 24) : RP (k + 1) ⟨ns, g⟩ ns2.length ⟨ns2 ++ [grpNd x (g + 1)], g2⟩ := by
  have hx := h.hx
  have hx' : ns2.length < (ns2 ++ [grpNd x (g + 1)]).length := by simp
  have hgt := get_last ns2 (grpNd x (g + 1)) hx'
  refine RP.one (T := [40] ++ pr ns2 x 0 ++ [41]) hwf hx' ?_ ?_ ?_ ?_ ?_ ⟨40, _, rfl, by simp⟩
  · show (ns2 ++ [grpNd x (g + 1)])[ns2.length].kind ≠ 5
    rw [hgt]; simp [grpNd]
  · show (ns2 ++ [grpNd x (g + 1)])[ns2.length].kind ≠ 4
    rw [hgt]; simp [grpNd]
  · show (ns2 ++ [grpNd x (g + 1)])[ns2.length].kind ≠ 0
    rw [hgt]; simp [grpNd]
  · show bodyT (pr (ns2 ++ [grpNd x (g + 1)])) (ns2 ++ [grpNd x (g + 1)])[ns2.length] = _
    rw [hgt]
    have e := pr_grow [grpNd x (g + 1)] hw hwf x hx 0
    simp only [bodyT, grpNd] at e ⊢
    simp only [Int.toNat_natCast]
    rw [e]
    simp
  · intro k' hk1 hk2 q i ha hq res hr
    rw [At.app, At.app] at ha
    obtain ⟨⟨ha1, ha2⟩, ha3⟩ := ha
    simp only [At, List.length_cons, List.length_nil, Nat.zero_add] at ha1 ha2
    obtain ⟨⟨p0, e0⟩, _⟩ := ha1
    have hne : bt q (i + 1) ≠ 63 := by
      have hat : At q (i + 1) (pr ns2 x 0 ++ [41]) := by
        rw [At.app]
        refine ⟨ha2, ?_⟩
        have := ha3
        simp only [List.length_append, List.length_cons, List.length_nil] at this
        rw [show i + 1 + (pr ns2 x 0).length = i + (0 + 1 + (pr ns2 x 0).length) by omega]
        exact this
      exact ((no63 hw x hx 0).app (fun r h => by cases h)).at (by simp) hat
    simp only [List.length_append, List.length_cons, List.length_nil] at ha3 hq hr
    rw [show i + (0 + 1 + (pr ns2 x 0).length) = i + 1 + (pr ns2 x 0).length by omega] at ha3
    simp only [At] at ha3
    obtain ⟨⟨p3, e3⟩, _⟩ := ha3
    obtain ⟨m, rfl⟩ : ∃ m, k' = m + 1 := ⟨k' - 1, by omega⟩
    have hfree : freeB q i = false := by simp [freeB, hne]
    have hopen : openS q ((⟨ns, g⟩ : Ar).at i) = some (g + 1, (⟨ns, g + 1⟩ : Ar).at (i + 1)) := by
      unfold openS
      rw [if_neg (by rw [show ((⟨ns, g⟩ : Ar).at i).i = i from rfl, hfree]; simp), if_neg (by show ¬ 3 ≤ g; omega)]
      rfl
    have hbar : isB q (i + 1 + (pr ns2 x 0).length) 124 = false := by simp [isB, e3]
    have hstop : stopB q (i + 1 + (pr ns2 x 0).length) = true := by simp [stopB, e3]
    have hin : AltD q m ((⟨ns, g + 1⟩ : Ar).at (i + 1)) (.ok (x, (⟨ns2, g2⟩ : Ar).at (i + 1 + (pr ns2 x 0).length))) := by
      rw [altD_eq]
      exact h.a0 m (by omega) (by omega) q (i + 1) ha2 hstop _ (AltL.stop hbar)
    have hshut := GroupR.shut (p := q) (d := 5 - (m + 1)) (A := AltD q m) (by omega) hopen hin (show isB q (i + 1 + (pr ns2 x 0).length) 41 = true by simp [isB, e3, p3])
    have hs2 : shutS ((⟨ns2, g2⟩ : Ar).at (i + 1 + (pr ns2 x 0).length)) x (g + 1) = .ok (ns2.length, (⟨ns2 ++ [grpNd x (g + 1)], g2⟩ : Ar).at (i + 1 + (pr ns2 x 0).length + 1)) := by
      unfold shutS
      rw [if_neg (by omega)]
      exact addS_at (ns := ns2) (g := g2) (j := i + 1 + (pr ns2 x 0).length + 1) (grpNd x (g + 1)) h24 (nm_grp _ _)
    rw [hs2] at hshut
    have hat : AtomR q (5 - (m + 1)) (lower q (m + 1)) ((⟨ns, g⟩ : Ar).at i) _ := AtomR.group e0 hshut
    rw [show i + (0 + 1 + (pr ns2 x 0).length + (0 + 1)) = i + 1 + (pr ns2 x 0).length + 1 by omega] at hr
    exact RepR.ok hat hr
theorem catP {k : Nat} {s s1 s2 : Ar} {l x : Nat} (hc : CatH k (pr s1.ns l 2) s l s1) (hh : Head (pr s1.ns l 2)) (hx : RP k s1 x s2) (hl : l < s1.ns.length) (hx2 : x < s2.ns.length) (hgr : ∃ t, s2.ns = s1.ns ++ t) (hw1 : WF s1.ns) (hw2 : WF s2.ns) (hwf : WF (s2.ns ++ [catNd l x])) (h24 : s2.ns.length < 24) : CP k s s2.ns.length ⟨s2.ns ++ [catNd l x], s2.g⟩ := by
  have hx' : s2.ns.length < (s2.ns ++ [catNd l x]).length := by simp
  have hgt := get_last s2.ns (catNd l x) hx'
  have hb : bodyT (pr (s2.ns ++ [catNd l x])) (catNd l x) = pr s1.ns l 2 ++ pr s2.ns x 3 := by
    have e1 : pr (s2.ns ++ [catNd l x]) l 2 = pr s1.ns l 2 := by
      obtain ⟨t, ht⟩ := hgr
      rw [pr_grow [catNd l x] hw2 hwf l (by rw [ht]; simp; omega)]
      rw [ht] at hw2 ⊢
      exact pr_grow t hw1 hw2 l hl 2
    have e2 := pr_grow [catNd l x] hw2 hwf x hx2 3
    simp only [bodyT, catNd] at e1 e2 ⊢
    simp only [Int.toNat_natCast]
    rw [e1, e2]
    simp
  have e : ∀ pl, pl = 0 ∨ pl = 1 ∨ pl = 2 → pr (s2.ns ++ [catNd l x]) s2.ns.length pl = pr s1.ns l 2 ++ pr s2.ns x 3 := fun pl hp => by
    rw [pr_eq hwf hx', hgt, hb]
    rcases hp with rfl | rfl | rfl <;> simp [wrapT, wantsB, catNd]
  have hC : CatH k (pr s1.ns l 2 ++ pr s2.ns x 3) s s2.ns.length ⟨s2.ns ++ [catNd l x], s2.g⟩ := by
    intro k' hk1 hk2 q i ha hn res hr
    rw [At.app] at ha
    rw [List.length_append, ← Nat.add_assoc] at hn hr
    have hf := hx.h3.facts ha.2
    refine hc k' hk1 hk2 q i ha.1 hf.2.2.1 res ?_
    have hrep : RepR q (5 - k') (lower q k') (s1.at (i + (pr s1.ns l 2).length)) (.ok (x, s2.at (i + (pr s1.ns l 2).length + (pr s2.ns x 3).length))) := hx.r3 k' hk1 hk2 q _ ha.2 hn.q _ (RepL.done hn)
    exact CatL.more hf.2.1 hrep (addS_at (ns := s2.ns) (g := s2.g) (catNd l x) h24 (nm_cat _ _)) hr
  refine ⟨hx', by rw [e 0 (by omega)]; exact hC.top.alt, by rw [e 1 (by omega)]; exact hC.top, fun _ => ⟨by rw [e 2 (by omega)]; exact hC, by rw [e 2 (by omega)]; exact hh.app _⟩, fun _ h4 => ?_⟩
  exact absurd (show (s2.ns ++ [catNd l x])[s2.ns.length].kind = 4 by rw [hgt]; rfl) h4
theorem altP {k : Nat} {s s1 s2 : Ar} {l x : Nat} (hc : AltH k (pr s1.ns l 0) s l s1) (hx : CatT k (pr s2.ns x 1) s1 x s2) (hl : l < s1.ns.length) (hx2 : x < s2.ns.length) (hgr : ∃ t, s2.ns = s1.ns ++ t) (hw1 : WF s1.ns) (hw2 : WF s2.ns) (hwf : WF (s2.ns ++ [altNd l x])) (h24 : s2.ns.length < 24) : QP k s s2.ns.length ⟨s2.ns ++ [altNd l x], s2.g⟩ := by
  have hx' : s2.ns.length < (s2.ns ++ [altNd l x]).length := by simp
  have hgt := get_last s2.ns (altNd l x) hx'
  have hb : bodyT (pr (s2.ns ++ [altNd l x])) (altNd l x) = pr s1.ns l 0 ++ (124 :: pr s2.ns x 1) := by
    have e1 : pr (s2.ns ++ [altNd l x]) l 0 = pr s1.ns l 0 := by
      obtain ⟨t, ht⟩ := hgr
      rw [pr_grow [altNd l x] hw2 hwf l (by rw [ht]; simp; omega)]
      rw [ht] at hw2 ⊢
      exact pr_grow t hw1 hw2 l hl 0
    have e2 := pr_grow [altNd l x] hw2 hwf x hx2 1
    simp only [bodyT, altNd] at e1 e2 ⊢
    simp only [Int.toNat_natCast]
    rw [e1, e2]
    simp
  have e : pr (s2.ns ++ [altNd l x]) s2.ns.length 0 = pr s1.ns l 0 ++ (124 :: pr s2.ns x 1) := by
    rw [pr_eq hwf hx', hgt, hb]
    simp [wrapT, wantsB, altNd]
  have h5 : (s2.ns ++ [altNd l x])[s2.ns.length].kind = 5 := by rw [hgt]; rfl
  refine ⟨hx', ?_, fun h => absurd h5 h, fun h => absurd h5 h, fun h => absurd h5 h⟩
  show AltH k (pr (s2.ns ++ [altNd l x]) s2.ns.length 0) _ _ _
  rw [e]
  intro k' hk1 hk2 q i ha hs res hr
  rw [At.app] at ha
  simp only [At] at ha
  obtain ⟨ha1, ⟨p1, e1⟩, ha2⟩ := ha
  rw [show i + (pr s1.ns l 0 ++ 124 :: pr s2.ns x 1).length = i + (pr s1.ns l 0).length + 1 + (pr s2.ns x 1).length by simp; omega] at hs hr
  refine hc k' hk1 hk2 q i ha1 (by simp [stopB, e1]) res ?_
  have hcat := hx k' hk1 hk2 q _ ha2 hs
  exact AltL.more (s := s1.at (i + (pr s1.ns l 0).length)) (by simp only [Ar.at]; simp [isB, e1, p1]) hcat (addS_at (ns := s2.ns) (g := s2.g) (altNd l x) h24 (nm_alt _ _)) hr
end Go.Proofs.Qxb6500287a
