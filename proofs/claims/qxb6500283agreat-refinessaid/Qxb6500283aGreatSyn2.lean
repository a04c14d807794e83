import Derived.Test.Qxb6500283aGreatSyn
namespace Go.Proofs.Qxb6500283aGreat

/-! The loop answers as the descent does. -/
theorem addS_i {s s' : Sg} {n : Nd} {y : Nat} (h : addS s n = .ok (y, s')) : s'.i = s.i := by
  unfold addS at h
  split at h
  · cases h
  · cases h; rfl
theorem joinN_i {l : Option Nat} {x y : Nat} {s s' : Sg} (h : joinN l x s = .ok (y, s')) : s'.i = s.i := by
  cases l with
  | none => cases h; rfl
  | some l => exact addS_i h
theorem joinR_ok {t t1 : Rs} (h : joinR t = .ok t1) : t1.s.i = t.s.i ∧ t1.r = t.r ∧ t1.f.atom = none ∧ t1.f.alt = t.f.alt ∧ t1.f.num = t.f.num ∧ t1.f.at_ = t.f.at_ := by
  unfold joinR at h
  split at h
  · rename_i ha
    cases h
    exact ⟨rfl, rfl, ha, rfl, rfl, rfl⟩
  · split at h
    · cases h
    · rename_i hj
      cases h
      exact ⟨joinN_i hj, rfl, rfl, rfl, rfl, rfl⟩
theorem end_joinE {p : ByteArray} {t : Rs} {e : Er} (h : joinR t = .error e) (hs : t.s.i < p.size → signB (bt p t.s.i) = false) : Ends p t (.error e) := by
  by_cases hi : t.s.i < p.size
  · exact .err hi (.joinE (hs hi) h)
  · have : finR t = .error e := by unfold finR; rw [h]
    rw [← this]
    exact .fin (by omega)
theorem end_foldE {p : ByteArray} {t t1 : Rs} {e : Er} (h : joinR t = .ok t1) (h2 : foldR t1 = .error e) (hs : stopB p t.s.i = true) : Ends p t (.error e) := by
  by_cases hi : t.s.i < p.size
  · simp only [stopB, hi, decide_true, Bool.not_true, Bool.false_or, Bool.or_eq_true, beq_iff_eq] at hs
    rcases hs with hb | hb
    · have := StepR.bar hb h
      rw [h2] at this
      exact .err hi this
    · have := StepR.shut hb h
      rw [show shutR t1 = .error e by unfold shutR; rw [h2]] at this
      exact .err hi this
  · have : finR t = .error e := by unfold finR; rw [h]; simp only; rw [h2]
    rw [← this]
    exact .fin (by omega)
def fat (f : Frm) (x : Nat) : Frm := ⟨f.alt, f.cat, some x, f.num, f.at_⟩
theorem rep_sim {p : ByteArray} {x : Nat} {s : Sg} {r : Res} (h : RepL p x s r) (f : Frm) (rest : List Frm) :
    (∀ e, r = .error e → Ends p ⟨s, fat f x, rest⟩ (.error e)) ∧ (∀ y s', r = .ok (y, s') → (s'.i < p.size → signB (bt p s'.i) = false) ∧ ∀ o, Ends p ⟨s', fat f y, rest⟩ o → Ends p ⟨s, fat f x, rest⟩ o) := by
  induction h with
  | done hd => exact ⟨fun e h => (by cases h), fun y s' h => (by cases h; exact ⟨hd, fun _ h => h⟩)⟩
  | @bad x s hi hs hc =>
    refine ⟨fun e h => ?_, fun y s' h => by cases h⟩
    cases h
    have := StepR.sign (p := p) (t := ⟨s, fat f x, rest⟩) hs
    rw [show signR p ⟨s, fat f x, rest⟩ = .error (3, s.i) by simp [signR, fat, hc]] at this
    exact .err hi this
  | @loop x s lo hi' j hi hs hc hneg hn =>
    refine ⟨fun e h => ?_, fun y s' h => by cases h⟩
    cases h
    have := StepR.sign (p := p) (t := ⟨s, fat f x, rest⟩) hs
    rw [show signR p ⟨s, fat f x, rest⟩ = .error (5, s.i) by simp [signR, fat, hc, hneg, hn]] at this
    exact .err hi this
  | @big x s lo hi' j e' hi hs hc hn ha =>
    refine ⟨fun e h => ?_, fun y s' h => by cases h⟩
    cases h
    have := StepR.sign (p := p) (t := ⟨s, fat f x, rest⟩) hs
    rw [show signR p ⟨s, fat f x, rest⟩ = .error e' by simp only [signR, fat, hc]; rw [if_neg hn, ha]; rfl] at this
    exact .err hi this
  | @more x y s s1 lo hi' j r hi hs hc hn ha _ ih =>
    have := StepR.sign (p := p) (t := ⟨s, fat f x, rest⟩) hs
    rw [show signR p ⟨s, fat f x, rest⟩ = .ok ⟨s1, fat f y, rest⟩ by simp only [signR, fat, hc]; rw [if_neg hn, ha]; rfl] at this
    exact ⟨fun e h => .step hi this (ih.1 e h), fun z s' h => ⟨(ih.2 z s' h).1, fun o ho => .step hi this ((ih.2 z s' h).2 o ho)⟩⟩
/-- An alternation at depth d is simulated. -/
def AltSim (p : ByteArray) (d : Nat) (A : Sg → Res → Prop) : Prop :=
  ∀ s r, A s r → ∀ num at_ rest, rest.length = d →
    (∀ e, r = .error e → Ends p ⟨s, ⟨none, none, none, num, at_⟩, rest⟩ (.error e)) ∧
    (∀ x s', r = .ok (x, s') → (s'.i < p.size → bt p s'.i = 41) ∧ ∃ t', t'.s.i = s'.i ∧ (∀ o, Ends p t' o → Ends p ⟨s, ⟨none, none, none, num, at_⟩, rest⟩ o) ∧ ∃ t1, joinR t' = .ok t1 ∧ foldR t1 = .ok ⟨s', ⟨some x, none, none, num, at_⟩, rest⟩)
theorem group_sim {p : ByteArray} {d : Nat} {A : Sg → Res → Prop} (hA : AltSim p (d + 1) A) {s : Sg} {r : Res} (h : GroupR p d A s r) (t : Rs) (f : Frm) (rest : List Frm) (hr : rest.length = d) (hj : joinR t = .ok ⟨s, f, rest⟩) (hi : s.i < p.size) (hb : bt p s.i = 40) :
    (∀ e, r = .error e → Ends p t (.error e)) ∧ (∀ y s', r = .ok (y, s') → ∀ o, Ends p ⟨s', fat f y, rest⟩ o → Ends p t o) := by
  have hti : t.s.i = s.i := (joinR_ok hj).1.symm
  have st := StepR.open_ (p := p) (t := t) (by rw [hti]; exact hb) hj
  have hi' : t.s.i < p.size := by omega
  cases h with
  | deep hd =>
    refine ⟨fun e h => ?_, fun y s' h => by cases h⟩
    cases h
    rw [show openR p ⟨s, f, rest⟩ = .error (6, s.i) by simp only [openR]; rw [if_pos (by omega)]] at st
    exact .err hi' st
  | many hd ho =>
    refine ⟨fun e h => ?_, fun y s' h => by cases h⟩
    cases h
    rw [show openR p ⟨s, f, rest⟩ = .error (7, s.i) by simp only [openR]; rw [if_neg (by omega), ho]] at st
    exact .err hi' st
  | @err s1 c e' hd ho ha =>
    refine ⟨fun e h => ?_, fun y s' h => by cases h⟩
    cases h
    rw [show openR p ⟨s, f, rest⟩ = .ok ⟨s1, ⟨none, none, none, c, s.i⟩, f :: rest⟩ by simp only [openR]; rw [if_neg (by omega), ho]] at st
    exact .step hi' st ((hA _ _ ha c s.i (f :: rest) (by simp [hr])).1 _ rfl)
  | @open_ s1 s2 c x hd ho ha hc =>
    refine ⟨fun e h => ?_, fun y s' h => by cases h⟩
    cases h
    rw [show openR p ⟨s, f, rest⟩ = .ok ⟨s1, ⟨none, none, none, c, s.i⟩, f :: rest⟩ by simp only [openR]; rw [if_neg (by omega), ho]] at st
    obtain ⟨h41, t', ht', hE, t1, hj1, hf1⟩ := (hA _ _ ha c s.i (f :: rest) (by simp [hr])).2 _ _ rfl
    refine .step hi' st (hE _ ?_)
    have hn : ¬ s2.i < p.size := fun h => by
      have := h41 h
      simp [isB, h, this] at hc
    rw [show (Except.error (1, s.i) : Ans) = finR t' by simp only [finR, hj1, hf1]; simp]
    exact .fin (by omega)
  | @shut s1 s2 c x hd ho ha hc =>
    rw [show openR p ⟨s, f, rest⟩ = .ok ⟨s1, ⟨none, none, none, c, s.i⟩, f :: rest⟩ by simp only [openR]; rw [if_neg (by omega), ho]] at st
    obtain ⟨h41, t', ht', hE, t1, hj1, hf1⟩ := (hA _ _ ha c s.i (f :: rest) (by simp [hr])).2 _ _ rfl
    simp only [isB, Bool.and_eq_true, decide_eq_true_eq, beq_iff_eq] at hc
    have st2 := StepR.shut (p := p) (t := t') (by rw [ht']; exact hc.2) hj1
    constructor
    · intro e he
      rw [show shutR t1 = .error e by simp only [shutR, hf1, Option.getD]; rw [he]] at st2
      exact .step hi' st (hE _ (.err (by omega) st2))
    · intro y s' he o ho'
      rw [show shutR t1 = .ok ⟨s', fat f y, rest⟩ by simp only [shutR, hf1, Option.getD]; rw [he]; rfl] at st2
      exact .step hi' st (hE _ (.step (by omega) st2 ho'))
theorem atom_sim {p : ByteArray} {d : Nat} {A : Sg → Res → Prop} (hA : AltSim p (d + 1) A) {s : Sg} {r : Res} (h : AtomR p d A s r) (t : Rs) (f : Frm) (rest : List Frm) (hr : rest.length = d) (hj : joinR t = .ok ⟨s, f, rest⟩) (hs : stopB p s.i = false) (hsg : signB (bt p s.i) = true → t.f.atom = none) :
    (∀ e, r = .error e → Ends p t (.error e)) ∧ (∀ y s', r = .ok (y, s') → ∀ o, Ends p ⟨s', fat f y, rest⟩ o → Ends p t o) := by
  have hti : t.s.i = s.i := (joinR_ok hj).1.symm
  simp only [stopB, Bool.or_eq_false_iff, Bool.not_eq_false', decide_eq_true_eq, beq_eq_false_iff_ne] at hs
  obtain ⟨⟨hi, hb1⟩, hb2⟩ := hs
  have hi' : t.s.i < p.size := by omega
  cases h with
  | group hb hg => exact group_sim hA hg t f rest hr hj hi hb
  | sign hb =>
    refine ⟨fun e h => ?_, fun y s' h => by cases h⟩
    cases h
    have := StepR.sign (p := p) (t := t) (by rw [hti]; exact hb)
    rw [show signR p t = .error (3, s.i) by simp only [signR, hsg hb, hti]] at this
    exact .err hi' this
  | leafE hb hn hl =>
    refine ⟨fun e h => ?_, fun y s' h => by cases h⟩
    cases h
    rw [← hti] at hb hn hl hb1 hb2
    exact .err hi' (.leafE hn hb1 hb2 hb hj hl)
  | leaf hb hn hl =>
    rw [← hti] at hb hn hl hb1 hb2
    have st := StepR.leaf hn hb1 hb2 hb hj hl
    constructor
    · intro e he
      rw [he] at st
      exact .err hi' st
    · intro y s' he o ho
      rw [he] at st
      exact .step hi' st ho
theorem repR_sim {p : ByteArray} {d : Nat} {A : Sg → Res → Prop} (hA : AltSim p (d + 1) A) {s : Sg} {r : Res} (h : RepR p d A s r) (t : Rs) (f : Frm) (rest : List Frm) (hr : rest.length = d) (hj : joinR t = .ok ⟨s, f, rest⟩) (hs : stopB p s.i = false) (hsg : signB (bt p s.i) = true → t.f.atom = none) :
    (∀ e, r = .error e → Ends p t (.error e)) ∧ (∀ y s', r = .ok (y, s') → (s'.i < p.size → signB (bt p s'.i) = false) ∧ ∀ o, Ends p ⟨s', fat f y, rest⟩ o → Ends p t o) := by
  cases h with
  | err ha =>
    refine ⟨fun e h => ?_, fun y s' h => by cases h⟩
    cases h
    exact (atom_sim hA ha t f rest hr hj hs hsg).1 _ rfl
  | ok ha hl =>
    have h1 := (atom_sim hA ha t f rest hr hj hs hsg).2 _ _ rfl
    have h2 := rep_sim hl f rest
    exact ⟨fun e he => h1 _ (h2.1 e he), fun y s' he => ⟨(h2.2 y s' he).1, fun o ho => h1 o ((h2.2 y s' he).2 o ho)⟩⟩
theorem cat_sim {p : ByteArray} {d : Nat} {A : Sg → Res → Prop} (hA : AltSim p (d + 1) A) {l : Option Nat} {s : Sg} {r : Res} (h : CatL p d A l s r) : ∀ (t : Rs) (f : Frm) (rest : List Frm), rest.length = d → joinR t = .ok ⟨s, f, rest⟩ → f.cat = l → (s.i < p.size → signB (bt p s.i) = true → t.f.atom = none) →
    (∀ e, r = .error e → Ends p t (.error e)) ∧ (∀ x s', r = .ok (x, s') → stopB p s'.i = true ∧ ∃ t', t'.s.i = s'.i ∧ (∀ o, Ends p t' o → Ends p t o) ∧ ∃ s0 c0, joinR t' = .ok ⟨s0, ⟨f.alt, c0, none, f.num, f.at_⟩, rest⟩ ∧ emptyN c0 s0 = .ok (x, s')) := by
  induction h with
  | @stop l s hs =>
    intro t f rest hr hj hc hsg
    have h5 := joinR_ok hj
    refine ⟨fun e h => (by cases h), fun x s' h => ?_⟩
    cases h
    refine ⟨hs, t, h5.1.symm, fun _ h => h, s, some l, ?_, rfl⟩
    rw [hj, ← hc, show none = f.atom from h5.2.2.1.symm]
  | @empty s hs =>
    intro t f rest hr hj hc hsg
    have h5 := joinR_ok hj
    constructor
    · intro e he
      exact end_foldE hj (by simp only [foldR, hc, emptyN]; rw [he]) (by rw [h5.1.symm]; exact hs)
    · intro x s' he
      have hi := addS_i he
      refine ⟨by rw [hi]; exact hs, t, by rw [hi]; exact h5.1.symm, fun _ h => h, s, none, ?_, he⟩
      have h6 : f.atom = none := h5.2.2.1
      cases f
      simp only at h6 hc
      subst h6 hc
      exact hj
  | @err l s e' hs hR =>
    intro t f rest hr hj hc hsg
    have hi : s.i < p.size := by simp [stopB] at hs; exact hs.1.1
    refine ⟨fun e h => ?_, fun x s' h => by cases h⟩
    cases h
    exact (repR_sim hA hR t f rest hr hj hs (hsg hi)).1 _ rfl
  | @big l s s1 x e' hs hR hJ =>
    intro t f rest hr hj hc hsg
    have hi : s.i < p.size := by simp [stopB] at hs; exact hs.1.1
    refine ⟨fun e h => ?_, fun x s' h => by cases h⟩
    cases h
    obtain ⟨h1, h2⟩ := (repR_sim hA hR t f rest hr hj hs (hsg hi)).2 _ _ rfl
    refine h2 _ (end_joinE ?_ h1)
    simp only [joinR, fat, hc, hJ]
  | @more l s s1 s2 x y r hs hR hJ _ ih =>
    intro t f rest hr hj hc hsg
    have hi : s.i < p.size := by simp [stopB] at hs; exact hs.1.1
    obtain ⟨h1, h2⟩ := (repR_sim hA hR t f rest hr hj hs (hsg hi)).2 _ _ rfl
    have hj2 : joinR ⟨s1, fat f x, rest⟩ = .ok ⟨s2, ⟨f.alt, some y, none, f.num, f.at_⟩, rest⟩ := by simp only [joinR, fat, hc, hJ]
    have h3 := ih ⟨s1, fat f x, rest⟩ ⟨f.alt, some y, none, f.num, f.at_⟩ rest hr hj2 rfl (fun h4 h5 => by
      rw [joinN_i hJ] at h4 h5
      rw [h1 h4] at h5
      cases h5)
    refine ⟨fun e he => h2 _ (h3.1 e he), fun z s' he => ?_⟩
    obtain ⟨h6, t', h7, h8, s0, c0, h9, h10⟩ := h3.2 z s' he
    exact ⟨h6, t', h7, fun o ho => h2 o (h8 o ho), s0, c0, h9, h10⟩
theorem emptyN_i {c : Option Nat} {s s' : Sg} {x : Nat} (h : emptyN c s = .ok (x, s')) : s'.i = s.i := by
  cases c with
  | none => exact addS_i h
  | some l => cases h; rfl
theorem altN_i {l : Option Nat} {s s' : Sg} {x y : Nat} (h : altN l x s = .ok (y, s')) : s'.i = s.i := by
  cases l with
  | some l => exact addS_i h
  | none => cases h; rfl
theorem altL_sim {p : ByteArray} {d : Nat} {A : Sg → Res → Prop} (hA : AltSim p (d + 1) A) {l : Nat} {s : Sg} {r : Res} (h : AltL p d A l s r) : ∀ (t : Rs) (num at_ : Nat) (rest : List Frm) (al c0 : Option Nat) (s0 s1 : Sg) (x : Nat), rest.length = d → t.s.i = s.i → stopB p s.i = true → joinR t = .ok ⟨s0, ⟨al, c0, none, num, at_⟩, rest⟩ → emptyN c0 s0 = .ok (x, s1) → altN al x s1 = .ok (l, s) →
    (∀ e, r = .error e → Ends p t (.error e)) ∧ (∀ x s', r = .ok (x, s') → (s'.i < p.size → bt p s'.i = 41) ∧ ∃ t', t'.s.i = s'.i ∧ (∀ o, Ends p t' o → Ends p t o) ∧ ∃ t1, joinR t' = .ok t1 ∧ foldR t1 = .ok ⟨s', ⟨some x, none, none, num, at_⟩, rest⟩) := by
  induction h with
  | @stop l s hb =>
    intro t num at_ rest al c0 s0 s1 x hr hti hs hj he ha
    refine ⟨fun e h => (by cases h), fun x' s' h => ?_⟩
    cases h
    refine ⟨fun hi => ?_, t, hti, fun _ h => h, _, hj, by simp only [foldR, he, ha]⟩
    simp only [stopB, hi, decide_true, Bool.not_true, Bool.false_or, Bool.or_eq_true, beq_iff_eq] at hs
    rcases hs with h1 | h1
    · simp [isB, hi, h1] at hb
    · exact h1
  | @err l s e' hb hC =>
    intro t num at_ rest al c0 s0 s1 x hr hti hs hj he ha
    refine ⟨fun e h => ?_, fun x s' h => by cases h⟩
    cases h
    simp only [isB, Bool.and_eq_true, decide_eq_true_eq, beq_iff_eq] at hb
    have st := StepR.bar (p := p) (t := t) (by rw [hti]; exact hb.2) hj
    simp only [foldR, he, ha] at st
    exact .step (by omega) st ((cat_sim hA hC ⟨⟨s.i + 1, s.ns, s.g⟩, ⟨some l, none, none, num, at_⟩, rest⟩ ⟨some l, none, none, num, at_⟩ rest hr rfl rfl (fun _ _ => rfl)).1 _ rfl)
  | @big l x2 s s2 e' hb hC hAdd =>
    intro t num at_ rest al c0 s0 s1 x hr hti hs hj he ha
    refine ⟨fun e h => ?_, fun x s' h => by cases h⟩
    cases h
    simp only [isB, Bool.and_eq_true, decide_eq_true_eq, beq_iff_eq] at hb
    have st := StepR.bar (p := p) (t := t) (by rw [hti]; exact hb.2) hj
    simp only [foldR, he, ha] at st
    obtain ⟨h6, t', h7, h8, s3, c3, h9, h10⟩ := (cat_sim hA hC ⟨⟨s.i + 1, s.ns, s.g⟩, ⟨some l, none, none, num, at_⟩, rest⟩ ⟨some l, none, none, num, at_⟩ rest hr rfl rfl (fun _ _ => rfl)).2 _ _ rfl
    refine .step (by omega) st (h8 _ (end_foldE h9 ?_ (by rw [h7]; exact h6)))
    simp only [foldR, h10, altN, hAdd]
  | @more l x2 y s s2 s4 r hb hC hAdd _ ih =>
    intro t num at_ rest al c0 s0 s1 x hr hti hs hj he ha
    simp only [isB, Bool.and_eq_true, decide_eq_true_eq, beq_iff_eq] at hb
    have st := StepR.bar (p := p) (t := t) (by rw [hti]; exact hb.2) hj
    simp only [foldR, he, ha] at st
    obtain ⟨h6, t', h7, h8, s3, c3, h9, h10⟩ := (cat_sim hA hC ⟨⟨s.i + 1, s.ns, s.g⟩, ⟨some l, none, none, num, at_⟩, rest⟩ ⟨some l, none, none, num, at_⟩ rest hr rfl rfl (fun _ _ => rfl)).2 _ _ rfl
    have hi4 := addS_i hAdd
    have h11 := ih t' num at_ rest (some l) c3 s3 s2 x2 hr (by omega) (by rw [hi4]; exact h6) h9 h10 hAdd
    refine ⟨fun e he => .step (by omega) st (h8 _ (h11.1 e he)), fun z s' he => ?_⟩
    obtain ⟨h12, t2, h13, h14, h15⟩ := h11.2 z s' he
    exact ⟨h12, t2, h13, fun o ho => .step (by omega) st (h8 _ (h14 o ho)), h15⟩
theorem altR_sim {p : ByteArray} {d : Nat} {A : Sg → Res → Prop} (hA : AltSim p (d + 1) A) : AltSim p d (AltR p d A) := by
  intro s r h num at_ rest hr
  cases h with
  | err hC =>
    refine ⟨fun e h => ?_, fun x s' h => by cases h⟩
    cases h
    exact (cat_sim hA hC ⟨s, ⟨none, none, none, num, at_⟩, rest⟩ ⟨none, none, none, num, at_⟩ rest hr rfl rfl (fun _ _ => rfl)).1 _ rfl
  | @ok s1 x r hC hL =>
    obtain ⟨h6, t', h7, h8, s3, c3, h9, h10⟩ := (cat_sim hA hC ⟨s, ⟨none, none, none, num, at_⟩, rest⟩ ⟨none, none, none, num, at_⟩ rest hr rfl rfl (fun _ _ => rfl)).2 _ _ rfl
    have h11 := altL_sim hA hL t' num at_ rest none c3 s3 s1 x hr h7 h6 h9 h10 rfl
    refine ⟨fun e he => h8 _ (h11.1 e he), fun z s' he => ?_⟩
    obtain ⟨h12, t2, h13, h14, h15⟩ := h11.2 z s' he
    exact ⟨h12, t2, h13, fun o ho => h8 _ (h14 o ho), h15⟩
theorem altD_sim (p : ByteArray) : ∀ k, k ≤ 5 → AltSim p (5 - k) (AltD p k) := by
  intro k
  induction k with
  | zero => intro _; exact altR_sim (A := fun _ _ => False) (fun _ _ h => h.elim)
  | succ k ih =>
    intro hk
    have h1 := ih (by omega)
    rw [show 5 - k = 5 - (k + 1) + 1 by omega] at h1
    exact altR_sim h1
/-- THE LOOP ANSWERS AS THE DESCENT DOES. -/
theorem model_ends {p : ByteArray} {o : Ans} (h : ModelR p o) : Ends p rs0 o := by
  have hs := altD_sim p 5 (by omega)
  cases h with
  | err h => exact ((hs _ _ h 0 0 [] rfl).1 _ rfl)
  | @paren x s h hi =>
    obtain ⟨h1, t', h2, h3, t1, h4, h5⟩ := (hs _ _ h 0 0 [] rfl).2 _ _ rfl
    have st := StepR.shut (p := p) (t := t') (by rw [h2]; exact h1 hi) h4
    rw [show shutR t1 = .error (1, s.i) by simp only [shutR, h5]] at st
    exact h3 _ (.err (by omega) st)
  | @ok x s h hi =>
    obtain ⟨h1, t', h2, h3, t1, h4, h5⟩ := (hs _ _ h 0 0 [] rfl).2 _ _ rfl
    refine h3 _ ?_
    rw [show (Except.ok (s.ns, x, s.g) : Ans) = finR t' by simp only [finR, h4, h5]; simp]
    exact .fin (by omega)
end Go.Proofs.Qxb6500283aGreat
