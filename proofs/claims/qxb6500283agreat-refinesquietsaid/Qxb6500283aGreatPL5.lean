/- The numbers of the groups within a group are greater than its own. -/
import Derived.Test.Qxb6500283aGreatT8
import Derived.Test.Qxb6500283aGreatPL2
namespace Go.Proofs.Qxb6500283aGreat

inductive GT (ns : List Nd) : Nat → Nat → Prop
  | leaf {g x : Nat} {n : Nd} : ns[x]? = some n → (n.kind = 0 ∨ n.kind = 1 ∨ n.kind = 2 ∨ n.kind = 3) → GT ns g x
  | two {g x a b : Nat} {n : Nd} : ns[x]? = some n → (n.kind = 4 ∨ n.kind = 5) → n.a = (a : Nat) → n.b = (b : Nat) → GT ns g a → GT ns g b → GT ns g x
  | rep {g x a : Nat} {n : Nd} : ns[x]? = some n → n.kind = 6 → n.a = (a : Nat) → GT ns g a → GT ns g x
  | grp {g x a c : Nat} {n : Nd} : ns[x]? = some n → n.kind = 7 → n.a = (a : Nat) → n.cap = (c : Nat) → g < c → GT ns c a → GT ns g x
theorem GT.mono {ns : List Nd} {g x : Nat} (h : GT ns g x) : ∀ g', g' ≤ g → GT ns g' x := by
  induction h with
  | leaf h1 h2 => exact fun g' _ => .leaf h1 h2
  | two h1 h2 h3 h4 _ _ ih1 ih2 => exact fun g' hg => .two h1 h2 h3 h4 (ih1 g' hg) (ih2 g' hg)
  | rep h1 h2 h3 _ ih => exact fun g' hg => .rep h1 h2 h3 (ih g' hg)
  | grp h1 h2 h3 h4 h5 h6 _ => exact fun g' hg => .grp h1 h2 h3 h4 (by omega) h6
theorem GT.app {ns : List Nd} {g x : Nat} (h : GT ns g x) (l : List Nd) : GT (ns ++ l) g x := by
  induction h with
  | leaf h1 h2 => exact .leaf (get_app h1) h2
  | two h1 h2 h3 h4 _ _ ih1 ih2 => exact .two (get_app h1) h2 h3 h4 ih1 ih2
  | rep h1 h2 h3 _ ih => exact .rep (get_app h1) h2 h3 ih
  | grp h1 h2 h3 h4 h5 _ ih => exact .grp (get_app h1) h2 h3 h4 h5 ih
def AltN (A : Sg → Res → Prop) : Prop := ∀ s x s', A s (.ok (x, s')) → GT s'.ns s.g x ∧ ∃ l, s'.ns = s.ns ++ l
theorem addS_N {s s' : Sg} {n : Nd} {y : Nat} (h : addS s n = .ok (y, s')) : s'.ns = s.ns ++ [n] ∧ s'.ns[y]? = some n ∧ s'.g = s.g := by
  obtain ⟨_, hg, hns, rfl⟩ := addS_grow h
  exact ⟨hns, by rw [hns]; exact get_last _ _ rfl, hg⟩
theorem GroupR.gt {p : ByteArray} {d : Nat} {A : Sg → Res → Prop} (hA : AltN A) {s : Sg} {r : Res} (h : GroupR p d A s r) : ∀ x s', r = .ok (x, s') → GT s'.ns s.g x ∧ ∃ l, s'.ns = s.ns ++ l := by
  intro x s' e
  cases h with
  | deep => cases e
  | many => cases e
  | err => cases e
  | open_ => cases e
  | @shut s1 s2 c y _ ho ha _ =>
    obtain ⟨h2, l, hl⟩ := hA _ _ _ ha
    have h1 : s1.ns = s.ns ∧ ((c = 0 ∧ s1.g = s.g) ∨ (c = s.g + 1 ∧ s1.g = c)) := by
      unfold openS at ho
      split at ho
      · cases ho; exact ⟨rfl, .inl ⟨rfl, rfl⟩⟩
      split at ho
      · cases ho
      · cases ho; exact ⟨rfl, .inr ⟨rfl, rfl⟩⟩
    unfold shutS at e
    split at e
    · cases e
      rename_i hc
      rcases h1.2 with ⟨_, hg⟩ | ⟨h3, _⟩
      · exact ⟨by rw [← hg]; exact h2, l, by rw [← h1.1]; exact hl⟩
      · omega
    · rename_i hc
      obtain ⟨e1, e2, _⟩ := addS_N e
      rcases h1.2 with ⟨h3, _⟩ | ⟨h3, h4⟩
      · exact absurd h3 hc
      · refine ⟨.grp (a := y) (c := c) e2 rfl rfl rfl (by omega) ?_, l ++ [grpNd y c], ?_⟩
        · rw [e1, ← h4]; exact h2.app _
        · rw [e1]; show s2.ns ++ _ = _; rw [hl, h1.1, List.append_assoc]
theorem AtomR.gt {p : ByteArray} {d : Nat} {A : Sg → Res → Prop} (hA : AltN A) {s : Sg} {r : Res} (h : AtomR p d A s r) : ∀ x s', r = .ok (x, s') → GT s'.ns s.g x ∧ ∃ l, s'.ns = s.ns ++ l := by
  intro x s' e
  cases h with
  | group _ hg => exact hg.gt hA _ _ e
  | sign => cases e
  | leafE => cases e
  | leaf _ _ hl =>
    obtain ⟨e1, e2, _⟩ := addS_N e
    refine ⟨.leaf e2 ?_, _, e1⟩
    cases hl <;> simp [leafNd]
theorem RepL.gt {p : ByteArray} {x : Nat} {s : Sg} {r : Res} (h : RepL p x s r) : ∀ g y s', r = .ok (y, s') → GT s.ns g x → GT s'.ns g y ∧ ∃ l, s'.ns = s.ns ++ l := by
  induction h with
  | done => intro g y s' e hx; cases e; exact ⟨hx, [], by simp⟩
  | bad => intro g y s' e; cases e
  | loop => intro g y s' e; cases e
  | big => intro g y s' e; cases e
  | @more x _ s s1 lo hi _ _ _ _ _ hn ha _ ih =>
    intro g y s' e hx
    obtain ⟨e1, e2, _⟩ := addS_N ha
    obtain ⟨h1, l, hl⟩ := ih g _ _ e (.rep (a := x) e2 rfl rfl (by rw [e1]; exact hx.app _))
    exact ⟨h1, [repNd x lo hi _] ++ l, by rw [hl, e1, List.append_assoc]⟩
theorem RepR.gt {p : ByteArray} {d : Nat} {A : Sg → Res → Prop} (hA : AltN A) {s : Sg} {r : Res} (h : RepR p d A s r) : ∀ x s', r = .ok (x, s') → GT s'.ns s.g x ∧ ∃ l, s'.ns = s.ns ++ l := by
  intro x s' e
  cases h with
  | err => cases e
  | ok ha hl =>
    obtain ⟨h1, l1, e1⟩ := ha.gt hA _ _ rfl
    obtain ⟨h2, l2, e2⟩ := hl.gt _ _ _ e h1
    exact ⟨h2, l1 ++ l2, by rw [e2, e1, List.append_assoc]⟩
theorem CatL.gt {p : ByteArray} {d : Nat} {A : Sg → Res → Prop} (hA : AltN A) (hT : AltT A) {l : Option Nat} {s : Sg} {r : Res} (h : CatL p d A l s r) : ∀ g x s', r = .ok (x, s') → g ≤ s.g → (∀ k, l = some k → GT s.ns g k) → GT s'.ns g x ∧ ∃ l, s'.ns = s.ns ++ l := by
  induction h with
  | stop => intro g y s' e _ hk; cases e; exact ⟨hk _ rfl, [], by simp⟩
  | empty =>
    intro g y s' e _ _
    obtain ⟨e1, e2, _⟩ := addS_N e
    exact ⟨.leaf e2 (.inl rfl), _, e1⟩
  | err => intro g y s' e; cases e
  | big => intro g y s' e; cases e
  | @more lo s s1 s2 x y r _ hr hj _ ih =>
    intro g y' s' e hg hk
    obtain ⟨h1, l1, e1⟩ := hr.gt hA _ _ rfl
    have ht := (hr.tr hT _ _ rfl).1
    have h1' := h1.mono g hg
    have h2 : GT s2.ns g y ∧ (∃ l2, s2.ns = s1.ns ++ l2) ∧ s2.g = s1.g := by
      unfold joinN at hj
      split at hj
      · cases hj; exact ⟨h1', ⟨[], by simp⟩, rfl⟩
      · obtain ⟨f1, f2, f3⟩ := addS_N hj
        refine ⟨.two f2 (.inl rfl) rfl rfl ?_ ?_, ⟨_, f1⟩, f3⟩
        · rw [f1, e1]; exact ((hk _ rfl).app _).app _
        · rw [f1]; exact h1'.app _
    obtain ⟨h2, ⟨l2, e2⟩, h3⟩ := h2
    obtain ⟨h4, l3, e3⟩ := ih g _ _ e (by omega) (fun k hk => by cases hk; exact h2)
    exact ⟨h4, l1 ++ l2 ++ l3, by rw [e3, e2, e1]; simp⟩
theorem AltL.gt {p : ByteArray} {d : Nat} {A : Sg → Res → Prop} (hA : AltN A) (hT : AltT A) {l : Nat} {s : Sg} {r : Res} (h : AltL p d A l s r) : ∀ g x s', r = .ok (x, s') → g ≤ s.g → GT s.ns g l → GT s'.ns g x ∧ ∃ l, s'.ns = s.ns ++ l := by
  induction h with
  | stop => intro g y s' e _ hk; cases e; exact ⟨hk, [], by simp⟩
  | err => intro g y s' e; cases e
  | big => intro g y s' e; cases e
  | @more l x y s s1 s2 r _ hc ha _ ih =>
    intro g y' s' e hg hk
    obtain ⟨h1, l1, e1⟩ := hc.gt hA hT g _ _ rfl hg (fun k hk => by cases hk)
    have ht := (hc.tr hT _ _ rfl).1
    obtain ⟨f1, f2, f3⟩ := addS_N ha
    have e1' : s1.ns = s.ns ++ l1 := e1
    have ht' : s.g ≤ s1.g := ht
    obtain ⟨h4, l3, e3⟩ := ih g _ _ e (by omega) (.two f2 (.inr rfl) rfl rfl (by rw [f1, e1']; exact (hk.app _).app _) (by rw [f1]; exact h1.app _))
    exact ⟨h4, l1 ++ [altNd l x] ++ l3, by rw [e3, f1, e1']; simp⟩
theorem AltR.gt {p : ByteArray} {d : Nat} {A : Sg → Res → Prop} (hA : AltN A) (hT : AltT A) : AltN (AltR p d A) := by
  intro s x s' h
  cases h with
  | ok hc hl =>
    obtain ⟨h1, l1, e1⟩ := hc.gt hA hT s.g _ _ rfl (Nat.le_refl _) (fun k hk => by cases hk)
    have ht := (hc.tr hT _ _ rfl).1
    obtain ⟨h2, l2, e2⟩ := hl.gt hA hT s.g _ _ rfl ht h1
    exact ⟨h2, l1 ++ l2, by rw [e2, e1, List.append_assoc]⟩
theorem AltD.gt (p : ByteArray) : ∀ k, AltN (AltD p k)
  | 0 => AltR.gt (fun _ _ _ h => h.elim) (fun _ _ _ h => h.elim)
  | k + 1 => AltR.gt (AltD.gt p k) (AltD.tr p k)
theorem ModelR.gt {p : ByteArray} {ns : List Nd} {x g : Nat} (h : ModelR p (.ok (ns, x, g))) : GT ns 0 x := by
  cases h with
  | ok ha _ => exact (AltD.gt p 5 _ _ _ ha).1
/-- Every group's number is greater than k, and greater within. -/
def RxG (k : Nat) : Rx → Prop
  | .cat a b => RxG k a ∧ RxG k b
  | .alt a b => RxG k a ∧ RxG k b
  | .rep a _ _ _ => RxG k a
  | .grp a j => k < j ∧ RxG j a
  | _ => True
theorem RxG.mono {k k' : Nat} (hk : k' ≤ k) : ∀ r, RxG k r → RxG k' r
  | .emp, _ => trivial
  | .set _, _ => trivial
  | .bol, _ => trivial
  | .eol, _ => trivial
  | .cat a b, h => ⟨RxG.mono hk a h.1, RxG.mono hk b h.2⟩
  | .alt a b, h => ⟨RxG.mono hk a h.1, RxG.mono hk b h.2⟩
  | .rep a _ _ _, h => RxG.mono hk a h
  | .grp _ _, h => ⟨by have := h.1; omega, h.2⟩
theorem IsT.g {ns : List Nd} {x : Nat} {r : Rx} (h : IsT ns x r) : ∀ {k}, GT ns k x → RxG k r := by
  have same : ∀ {y : Nat} {n m : Nd}, ns[y]? = some n → ns[y]? = some m → n = m := fun h1 h2 => by rw [h1] at h2; cases h2; rfl
  induction h with
  | emp => exact fun _ => trivial
  | set => exact fun _ => trivial
  | bol => exact fun _ => trivial
  | eol => exact fun _ => trivial
  | cat h e e1 e2 _ _ _ _ ih1 ih2 =>
    intro k hg
    cases hg with
    | leaf h1 h2 => have := same h h1; subst this; omega
    | two h1 h2 h3 h4 h5 h6 =>
      have := same h h1; subst this
      rw [e1] at h3; rw [e2] at h4
      have a1 := Int.ofNat.inj h3; have a2 := Int.ofNat.inj h4
      subst a1 a2
      exact ⟨ih1 h5, ih2 h6⟩
    | rep h1 h2 => have := same h h1; subst this; omega
    | grp h1 h2 => have := same h h1; subst this; omega
  | alt h e e1 e2 _ _ _ _ ih1 ih2 =>
    intro k hg
    cases hg with
    | leaf h1 h2 => have := same h h1; subst this; omega
    | two h1 h2 h3 h4 h5 h6 =>
      have := same h h1; subst this
      rw [e1] at h3; rw [e2] at h4
      have a1 := Int.ofNat.inj h3; have a2 := Int.ofNat.inj h4
      subst a1 a2
      exact ⟨ih1 h5, ih2 h6⟩
    | rep h1 h2 => have := same h h1; subst this; omega
    | grp h1 h2 => have := same h h1; subst this; omega
  | rep h e e1 e2 _ _ ih1 =>
    intro k hg
    cases hg with
    | leaf h1 h2 => have := same h h1; subst this; omega
    | two h1 h2 => have := same h h1; subst this; omega
    | rep h1 h2 h3 h5 =>
      have := same h h1; subst this
      rw [e1] at h3
      have a1 := Int.ofNat.inj h3
      subst a1
      exact ih1 h5
    | grp h1 h2 => have := same h h1; subst this; omega
  | grp h e e1 e2 _ _ ih1 =>
    intro k hg
    cases hg with
    | leaf h1 h2 => have := same h h1; subst this; omega
    | two h1 h2 => have := same h h1; subst this; omega
    | rep h1 h2 => have := same h h1; subst this; omega
    | grp h1 h2 h3 h4 h5 h6 =>
      have := same h h1; subst this
      rw [e1] at h3; rw [e2] at h4
      have a1 := Int.ofNat.inj h3; have a2 := Int.ofNat.inj h4
      subst a1 a2
      exact ⟨h5, ih1 h6⟩
theorem RxG.slot {k : Nat} : ∀ r, RxG k r → NoSlot (2 * k) r
  | .emp, _ => trivial
  | .set _, _ => trivial
  | .bol, _ => trivial
  | .eol, _ => trivial
  | .cat a b, h => ⟨RxG.slot a h.1, RxG.slot b h.2⟩
  | .alt a b, h => ⟨RxG.slot a h.1, RxG.slot b h.2⟩
  | .rep a _ _ _, h => RxG.slot a h
  | .grp a j, h => by
    have h1 := h.1
    exact ⟨RxG.slot a (RxG.mono (by omega) a h.2), by omega, by omega⟩
theorem RxG.ch {k z : Nat} {x : Rx} (h : RxG k x) : RxG k (chR z x) := by
  unfold chR
  split
  · exact h
  · split <;> trivial
theorem reps_all {Q : Rx → Prop} {x : Rx} (hx : Q x) (hc : ∀ a b, Q a → Q b → Q (.cat a b)) : ∀ k, Q (repsR x (k + 1))
  | 0 => hx
  | k + 1 => hc _ _ (reps_all hx hc k) hx
theorem opt_all {Q : Rx → Prop} {x : Rx} (he : Q .emp) (hx : Q x) (hc : ∀ a b, Q a → Q b → Q (.cat a b)) (ha : ∀ a b, Q a → Q b → Q (.alt a b)) (lz : Bool) : ∀ k, Q (optR x lz (k + 1))
  | 0 => by cases lz <;> exact ha _ _ (by first | exact he | exact hx) (by first | exact he | exact hx)
  | k + 1 => by
    have ih := hc x _ hx (opt_all he hx hc ha lz k)
    cases lz
    · exact ha _ _ ih he
    · exact ha _ _ he ih
theorem unroll_all {Q : Rx → Prop} {x : Rx} (he : Q .emp) (hx : Q x) (hc : ∀ a b, Q a → Q b → Q (.cat a b)) (ha : ∀ a b, Q a → Q b → Q (.alt a b)) {mn : Nat} {mx : Int} (lz : Bool) (hs : mx < 0 → Q (starR x lz)) : Q (unrollR x mn mx lz) := by
  unfold unrollR
  by_cases hm : mx < 0
  · rw [if_pos hm]
    by_cases hz : mn = 0
    · rw [if_pos hz]; exact hs hm
    · rw [if_neg hz]
      obtain ⟨m, rfl⟩ : ∃ m, mn = m + 1 := ⟨mn - 1, by omega⟩
      exact hc _ _ (reps_all hx hc m) (hs hm)
  · rw [if_neg hm]
    by_cases hlt : (mn : Int) < mx
    · rw [if_pos hlt]
      obtain ⟨k, hk⟩ : ∃ k, mx.toNat - mn = k + 1 := ⟨mx.toNat - mn - 1, by omega⟩
      rw [hk]
      by_cases hz : mn = 0
      · rw [if_pos hz]; exact opt_all he hx hc ha lz k
      · rw [if_neg hz]
        obtain ⟨m, rfl⟩ : ∃ m, mn = m + 1 := ⟨mn - 1, by omega⟩
        exact hc _ _ (reps_all hx hc m) (opt_all he hx hc ha lz k)
    · rw [if_neg hlt]
      by_cases hz : mn = 0
      · subst hz; exact he
      · obtain ⟨m, rfl⟩ : ∃ m, mn = m + 1 := ⟨mn - 1, by omega⟩
        exact reps_all hx hc m
theorem RxG.co : ∀ r {k}, RxG k r → RxG k (co r)
  | .emp, _, _ => trivial
  | .set _, _, _ => trivial
  | .bol, _, _ => trivial
  | .eol, _, _ => trivial
  | .cat a b, k, h => by
    have ha := RxG.co a h.1
    have hb := RxG.co b h.2
    simp only [Go.Proofs.Qxb6500283aGreat.co]
    split
    · exact hb
    · split
      · exact ha
      · exact ⟨ha, hb⟩
  | .alt a b, k, h => by
    have ha := RxG.co a h.1
    have hb := RxG.co b h.2
    simp only [Go.Proofs.Qxb6500283aGreat.co]
    split
    · exact hb
    · split
      · exact ha
      · exact ⟨ha.ch, hb.ch⟩
  | .grp a j, k, h => ⟨h.1, (RxG.co a h.2).ch⟩
  | .rep a mn mx lz, k, h => by
    have ha := RxG.co a h
    exact unroll_all (Q := RxG k) trivial ha (fun _ _ h1 h2 => ⟨h1, h2⟩) (fun _ _ h1 h2 => ⟨h1, h2⟩) lz (fun _ => ha)
/-- The core form keeps to the rules of the code. -/
theorem RxC.co {g : Nat} : ∀ r {k}, RxB r → RxOk g r → RxG k r → RxC (chR (sh r) (co r)) ∧ (sh r = 2 → RxC (co r)) := by
  have fin : ∀ r, (sh r = 2 → RxC (Go.Proofs.Qxb6500283aGreat.co r)) → RxC (chR (sh r) (Go.Proofs.Qxb6500283aGreat.co r)) ∧ (sh r = 2 → RxC (Go.Proofs.Qxb6500283aGreat.co r)) := fun r h => by
    refine ⟨?_, h⟩
    unfold chR
    split
    · rename_i h2; exact h h2
    · split <;> trivial
  intro r
  induction r with
  | emp => intro k _ _ _; exact fin _ (fun _ => trivial)
  | set P => intro k _ _ _; exact fin _ (fun _ => trivial)
  | bol => intro k _ _ _; exact fin _ (fun _ => trivial)
  | eol => intro k _ _ _; exact fin _ (fun _ => trivial)
  | cat a b iha ihb =>
    intro k hB hO hG
    have ha := iha hB.1 hO.1 hG.1
    have hb := ihb hB.2 hO.2 hG.2
    refine fin _ (fun h2 => ?_)
    have la := sh_le a
    have lb := sh_le b
    simp only [sh] at h2
    by_cases c1 : sh a = 1 ∨ sh b = 1
    · rw [if_pos c1] at h2; cases h2
    rw [if_neg c1] at h2
    simp only [Go.Proofs.Qxb6500283aGreat.co]
    by_cases c2 : sh a = 0
    · rw [if_pos c2] at h2 ⊢; exact hb.2 h2
    · rw [if_neg c2]
      by_cases c3 : sh b = 0
      · rw [if_pos c3]; exact ha.2 (by omega)
      · rw [if_neg c3]; exact ⟨ha.2 (by omega), hb.2 (by omega)⟩
  | alt a b iha ihb =>
    intro k hB hO hG
    have ha := iha hB.1 hO.1 hG.1
    have hb := ihb hB.2 hO.2 hG.2
    refine fin _ (fun h2 => ?_)
    simp only [sh] at h2
    simp only [Go.Proofs.Qxb6500283aGreat.co]
    by_cases c1 : sh a = 1
    · rw [if_pos c1] at h2 ⊢; exact hb.2 h2
    rw [if_neg c1] at h2 ⊢
    by_cases c2 : sh b = 1
    · rw [if_pos c2] at h2 ⊢; exact ha.2 h2
    rw [if_neg c2]
    exact ⟨ha.1, hb.1⟩
  | grp a j iha =>
    intro k hB hO hG
    have ha := iha hB hO.1 hG.2
    exact fin _ (fun _ => ⟨ha.1, RxG.slot _ (RxG.co a hG.2).ch⟩)
  | rep a mn mx lz iha =>
    intro k hB hO hG
    have ha := iha hB.1 hO.1 hG
    refine fin _ (fun h2 => ?_)
    have la := sh_le a
    simp only [sh] at h2
    by_cases c1 : sh a = 1 ∧ 0 < mn
    · rw [if_pos c1] at h2; cases h2
    rw [if_neg c1] at h2
    by_cases c2 : sh a ≠ 2 ∨ mx = 0
    · rw [if_pos c2] at h2; cases h2
    have a2 : sh a = 2 := by omega
    exact unroll_all (Q := RxC) trivial (ha.2 a2) (fun _ _ h1 h2 => ⟨h1, h2⟩) (fun _ _ h1 h2 => ⟨h1, h2⟩) lz (fun hm => ⟨ha.2 a2, by rw [(nul_co a hB.1).2.2 a2]; exact hO.2 hm⟩)
end Go.Proofs.Qxb6500283aGreat
