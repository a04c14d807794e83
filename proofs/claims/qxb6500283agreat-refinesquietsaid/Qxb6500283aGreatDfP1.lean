/- The plain law: the sets of open places hold a match just if the search in depth finds one. -/
import Derived.Test.Qxb6500283aGreatDfD12
import Derived.Test.Qxb6500283aGreatPkDfs4
namespace Go.Proofs.Qxb6500283aGreat
open Go Go.RowKit

section
variable {p : List In} {str : ByteArray}
theorem dfs_sound (K : Nat → Nat → Prop) (hK : ∀ i pc c, K i pc → ∀ t ∈ succ p str pc i c, K t.2.1 t.1) : ∀ (f : Nat) (S : List (Nat × Nat × (Nat → Int))) (sn : Nat → Nat → Bool) {r sn'}, dfs p str f S sn = some (some r, sn') → (∀ t ∈ S, K t.2.1 t.1) → ∃ i pc, K i pc ∧ isM p pc = true
  | 0, _, _, _, _, h, _ => by simp [dfs] at h
  | f + 1, [], sn, r, sn', h, _ => by simp [dfs] at h
  | f + 1, (pc, i, c) :: S, sn, r, sn', h, hS => by
    simp only [dfs] at h
    split at h
    · exact dfs_sound K hK f S sn h fun t ht => hS t (by simp [ht])
    · split at h
      · exact ⟨i, pc, hS (pc, i, c) (by simp), by assumption⟩
      · refine dfs_sound K hK f _ _ h fun t ht => ?_
        rcases List.mem_append.1 ht with h1 | h1
        · exact hK i pc c (hS (pc, i, c) (by simp)) t h1
        · exact hS t (by simp [h1])
theorem dfs_has : ∀ (f : Nat) (S : List (Nat × Nat × (Nat → Int))) (sn : Nat → Nat → Bool) {sn'}, dfs p str f S sn = some (none, sn') → ∀ t ∈ S, sn' t.2.1 t.1 = true
  | 0, _, _, _, h, _, _ => by simp [dfs] at h
  | f + 1, [], sn, sn', h, t, ht => by cases ht
  | f + 1, (pc, i, c) :: S, sn, sn', h, t, ht => by
    simp only [dfs] at h
    split at h
    · rename_i hsn
      rcases List.mem_cons.1 ht with rfl | h1
      · exact dfs_grow f S sn h i pc hsn
      · exact dfs_has f S sn h t h1
    · split at h
      · cases h
      · rcases List.mem_cons.1 ht with rfl | h1
        · exact dfs_grow f _ _ h i pc (mark_same sn pc i)
        · exact dfs_has f _ _ h t (List.mem_append.2 (.inr h1))
theorem runFrom_some : ∀ (m at_ : Nat), (runFrom p str m at_).isSome = true ↔ ∃ a, at_ ≤ a ∧ a < at_ + m ∧ (roadAt p str a).ok = true
  | 0, at_ => by
    simp only [runFrom]
    constructor
    · intro h; cases h
    · rintro ⟨a, h1, h2, _⟩; omega
  | m + 1, at_ => by
    rw [runFrom]
    cases hok : (roadAt p str at_).ok with
    | true =>
      simp only [if_true]
      exact ⟨fun _ => ⟨at_, Nat.le_refl _, by omega, hok⟩, fun _ => rfl⟩
    | false =>
      simp only [Bool.false_eq_true, if_false]
      rw [runFrom_some m (at_ + 1)]
      constructor
      · rintro ⟨a, h1, h2, h3⟩; exact ⟨a, by omega, by omega, h3⟩
      · rintro ⟨a, h1, h2, h3⟩
        by_cases e : a = at_
        · subst e; rw [hok] at h3; cases h3
        · exact ⟨a, by omega, by omega, h3⟩
theorem isM_iff (pc : Nat) : isM p pc = true ↔ opAt p pc 6 := by
  unfold isM opAt
  cases p[pc]? with
  | none => simp
  | some x => simp
/-- The place pc stands open at byte i. -/
def InRD (p : List In) (str : ByteArray) (from_ i pc : Nat) : Prop := from_ ≤ i ∧ ((i < str.size ∧ RD p str from_ (i - from_) pc) ∨ (i = str.size ∧ Clo p (decide (str.size = 0)) true (fun q => q < p.length ∧ RD p str from_ (str.size - from_) q) pc))
theorem rd_lt (hok : OkProg p) {from_ k q : Nat} (h : RD p str from_ k q) : q < p.length := by
  cases k with
  | zero => exact h (fun q => q < p.length) (fun q h => h.1) (fun q r _ hs => eps_lt hok hs)
  | succ k => exact h (fun q => q < p.length) (fun q h => h.1) (fun q r _ hs => eps_lt hok hs)
theorem rd_zero (hok : OkProg p) {from_ k : Nat} : RD p str from_ k 0 := by
  cases k with
  | zero => exact Clo.base ⟨hok.pos, rfl⟩
  | succ k => exact Clo.base ⟨hok.pos, .inl rfl⟩
theorem rd_eps {from_ i : Nat} (hi : from_ ≤ i) {q r : Nat} (h : RD p str from_ (i - from_) q) (hs : eps p (decide (i = 0)) false q r) : RD p str from_ (i - from_) r := by
  cases hk : i - from_ with
  | zero =>
    rw [hk] at h
    have ei : i = from_ := by omega
    have e : decide (i = 0) = decide (from_ = 0) := by rw [ei]
    rw [e] at hs
    exact Clo.step h hs
  | succ k =>
    rw [hk] at h
    rw [decide_eq_false (by omega)] at hs
    exact Clo.step h hs
theorem inR_lift (hok : OkProg p) {from_ i pc : Nat} (hi : from_ ≤ i) (hs : i ≤ str.size) (h : RD p str from_ (i - from_) pc) : InRD p str from_ i pc := by
  refine ⟨hi, ?_⟩
  by_cases e : i < str.size
  · exact .inl ⟨e, h⟩
  · have : i = str.size := by omega
    subst this
    exact .inr ⟨rfl, Clo.base ⟨rd_lt hok h, h⟩⟩
theorem inR_eps {from_ i q r : Nat} (h : InRD p str from_ i q) (hs : eps p (decide (i = 0)) (decide (i = str.size)) q r) : InRD p str from_ i r := by
  obtain ⟨hi, ⟨h1, h2⟩ | ⟨rfl, h2⟩⟩ := h
  · rw [decide_eq_false (show ¬ i = str.size by omega)] at hs
    exact ⟨hi, .inl ⟨h1, rd_eps hi h2 hs⟩⟩
  · rw [decide_eq_true rfl] at hs
    exact ⟨hi, .inr ⟨rfl, Clo.step h2 hs⟩⟩
theorem inR_rd_char (hok : OkProg p) {from_ i q : Nat} (hi : from_ ≤ i) (hs : i < str.size) (h : RD p str from_ (i - from_) q) (x : In) (hx : p[q]? = some x) (ho : x.op = 0) (hh : hasB x.s0 x.s1 x.s2 x.s3 (bt str i) = true) : InRD p str from_ (i + 1) (q + 1) := by
  refine inR_lift hok (by omega) (by omega) ?_
  rw [show i + 1 - from_ = (i - from_) + 1 by omega]
  refine Clo.base ⟨?_, .inr ⟨q, rfl, h, x, hx, ho, by rw [show from_ + (i - from_) = i by omega]; exact hh⟩⟩
  obtain ⟨hq, rfl⟩ := List.getElem?_eq_some_iff.1 hx
  have := hok.all q hq
  unfold okIn at this
  omega
theorem inR_succ (hok : OkProg p) {from_ i pc : Nat} (c : Nat → Int) (h : InRD p str from_ i pc) : ∀ t ∈ succ p str pc i c, InRD p str from_ t.2.1 t.1 := by
  intro t ht
  unfold succ at ht
  cases hx : p[pc]? with
  | none => rw [hx] at ht; cases ht
  | some x =>
    rw [hx] at ht
    obtain ⟨hq, hpx⟩ := List.getElem?_eq_some_iff.1 hx
    have hokq := hok.all pc hq
    rw [hpx] at hokq
    unfold okIn at hokq
    simp only at ht
    split at ht
    · rename_i ho
      split at ht
      · rename_i hc
        simp at ht
        subst ht
        obtain ⟨hi, ⟨h1, h2⟩ | ⟨h1, _⟩⟩ := h
        · exact inR_rd_char hok hi h1 h2 x hx ho hc.2
        · omega
      · cases ht
    · split at ht
      · rename_i ho
        simp at ht
        rcases ht with rfl | rfl
        · exact inR_eps h ⟨x, hx, .inl ⟨ho, .inl (by simp; omega)⟩⟩
        · exact inR_eps h ⟨x, hx, .inl ⟨ho, .inr (by simp; omega)⟩⟩
      · split at ht
        · rename_i ho
          simp at ht
          subst ht
          exact inR_eps h ⟨x, hx, .inr (.inl ⟨ho, by simp; omega⟩)⟩
        · split at ht
          · rename_i ho
            simp at ht
            subst ht
            exact inR_eps h ⟨x, hx, .inr (.inr (.inl ⟨ho, rfl⟩))⟩
          · split at ht
            · rename_i ho
              split at ht
              · rename_i hi0
                simp at ht
                subst ht
                exact inR_eps h ⟨x, hx, .inr (.inr (.inr (.inl ⟨ho, decide_eq_true hi0, rfl⟩)))⟩
              · cases ht
            · split at ht
              · rename_i ho
                split at ht
                · rename_i hi0
                  simp at ht
                  subst ht
                  exact inR_eps h ⟨x, hx, .inr (.inr (.inr (.inr ⟨ho, decide_eq_true hi0, rfl⟩)))⟩
                · cases ht
              · cases ht
theorem ans_of_run (hok : OkProg p) {from_ : Nat} (hfrom : from_ ≤ str.size) (h : (runS p str from_).isSome = true) : AnsP p str from_ := by
  obtain ⟨a, h1, h2, h3⟩ := (runFrom_some _ _).1 h
  obtain ⟨f, s2', hd, _⟩ := roadAt_dfs (str := str) (at_ := a) hok (by omega)
  have e : (resOf (roadAt p str a)).map (fun r => (upd r.1 0 (a : Int), r.2)) = some (upd (roadAt p str a).c 0 (a : Int), (roadAt p str a).e.toNat) := by simp [resOf, h3]
  rw [e] at hd
  obtain ⟨i, pc, hR, hM⟩ := dfs_sound (InRD p str from_) (fun i pc c h => inR_succ hok c h) f _ _ hd (fun t ht => by
    simp at ht
    subst ht
    exact inR_lift hok h1 (show a ≤ str.size by omega) (rd_zero hok))
  obtain ⟨hi, ⟨h4, h5⟩ | ⟨_, h5⟩⟩ := hR
  · exact .inl ⟨i - from_, by omega, pc, h5, (isM_iff pc).1 hM⟩
  · exact .inr ⟨pc, h5, (isM_iff pc).1 hM⟩
/-- An eps step is a step of the search. -/
theorem eps_succ (hok : OkProg p) {i q r : Nat} (hs : eps p (decide (i = 0)) (decide (i = str.size)) q r) (c : Nat → Int) : ∃ t ∈ succ p str q i c, t.1 = r ∧ t.2.1 = i := by
  obtain ⟨x, hx, h⟩ := hs
  obtain ⟨hq, hpx⟩ := List.getElem?_eq_some_iff.1 hx
  have hokq := hok.all q hq
  rw [hpx] at hokq
  unfold okIn at hokq
  unfold succ
  rw [hx]
  simp only
  rcases h with ⟨o, h | h⟩ | ⟨o, h⟩ | ⟨o, h⟩ | ⟨o, h1, h⟩ | ⟨o, h1, h⟩
  · exact ⟨(x.x.toNat, i, c), by simp [o], by simp; omega, rfl⟩
  · exact ⟨(x.y.toNat, i, c), by simp [o], by simp; omega, rfl⟩
  · exact ⟨(x.x.toNat, i, c), by simp [o], by simp; omega, rfl⟩
  · exact ⟨(q + 1, i, upd c x.x.toNat i), by simp [o], h.symm, rfl⟩
  · exact ⟨(q + 1, i, c), by simp [o, of_decide_eq_true h1], h.symm, rfl⟩
  · exact ⟨(q + 1, i, c), by simp [o, of_decide_eq_true h1], h.symm, rfl⟩
theorem eps_up {b e b' e' : Bool} {q r : Nat} (h : eps p b e q r) (hb : b = true → b' = true) (he : e = true → e' = true) : eps p b' e' q r := by
  obtain ⟨x, hx, h⟩ := h
  refine ⟨x, hx, ?_⟩
  rcases h with h | h | h | ⟨o, h1, h⟩ | ⟨o, h1, h⟩
  · exact .inl h
  · exact .inr (.inl h)
  · exact .inr (.inr (.inl h))
  · exact .inr (.inr (.inr (.inl ⟨o, hb h1, h⟩)))
  · exact .inr (.inr (.inr (.inr ⟨o, he h1, h⟩)))
theorem run_of_ans (hok : OkProg p) {from_ : Nat} (hfrom : from_ ≤ str.size) (h : AnsP p str from_) : (runS p str from_).isSome = true := by
  cases hr : (runS p str from_).isSome with
  | true => rfl
  | false =>
  exfalso
  have hno : ∀ a, from_ ≤ a → a ≤ str.size → (roadAt p str a).ok = false := fun a h1 h2 => by
    cases ho : (roadAt p str a).ok with
    | false => rfl
    | true =>
      have : (runS p str from_).isSome = true := (runFrom_some _ _).2 ⟨a, h1, by omega, ho⟩
      rw [hr] at this; cases this
  have hK : ∀ a, from_ ≤ a → a ≤ str.size → ∃ K : Nat → Nat → Bool, Closed p str K ∧ K a 0 = true := fun a h1 h2 => by
    obtain ⟨f, s2', hd, _⟩ := roadAt_dfs (str := str) (at_ := a) hok h2
    have e : (resOf (roadAt p str a)).map (fun r => (upd r.1 0 (a : Int), r.2)) = none := by simp [resOf, hno a h1 h2]
    rw [e] at hd
    exact ⟨s2', dfs_none f _ _ hd (fun i pc hi => by cases hi), dfs_has f _ _ hd (0, a, stC a) (by simp)⟩
  -- what the searches have seen, all together
  let U : Nat → Nat → Prop := fun i pc => ∃ K : Nat → Nat → Bool, Closed p str K ∧ K i pc = true
  have Ueps : ∀ i q r, U i q → eps p (decide (i = 0)) (decide (i = str.size)) q r → U i r := fun i q r ⟨K, hc, hk⟩ hs => by
    obtain ⟨t, ht, e1, e2⟩ := eps_succ (str := str) hok hs (fun _ => -1)
    have := (hc i q hk).2 _ t ht
    rw [e1, e2] at this
    exact ⟨K, hc, this⟩
  have Uchar : ∀ i q x, U i q → i < str.size → p[q]? = some x → x.op = 0 → hasB x.s0 x.s1 x.s2 x.s3 (bt str i) = true → U (i + 1) (q + 1) := fun i q x ⟨K, hc, hk⟩ hi hx ho hh => by
    have := (hc i q hk).2 (fun _ => -1) (q + 1, i + 1, fun _ => -1) (by unfold succ; rw [hx]; simp [ho, hi, hh])
    exact ⟨K, hc, this⟩
  have hU : ∀ k, from_ + k ≤ str.size → ∀ q, RD p str from_ k q → U (from_ + k) q := by
    intro k
    induction k with
    | zero =>
      intro hk q hq
      refine hq (fun q => U (from_ + 0) q) (fun q h => by rw [h.2]; exact hK _ (by omega) (by omega)) (fun q r hq hs => Ueps _ q r hq (eps_up hs (fun h => h) (fun h => by cases h)))
    | succ k ih =>
      intro hk q hq
      refine hq (fun q => U (from_ + (k + 1)) q) (fun q h => ?_) (fun q r hq hs => Ueps _ q r hq (eps_up hs (fun h => by cases h) (fun h => by cases h)))
      rcases h.2 with rfl | ⟨pc, rfl, h1, x, hx, ho, hh⟩
      · exact hK _ (by omega) (by omega)
      · exact Uchar (from_ + k) pc x (ih (by omega) pc h1) (by omega) hx ho hh
  have nohit : ∀ i q, U i q → ¬ opAt p q 6 := fun i q ⟨K, hc, hk⟩ ho => by
    have := (hc i q hk).1
    rw [(isM_iff q).2 ho] at this; cases this
  rcases h with ⟨k, hk, q, h1, h2⟩ | ⟨q, h1, h2⟩
  · exact nohit _ q (hU k (by omega) q h1) h2
  · refine nohit str.size q (h1 (fun q => U str.size q) (fun q h => ?_) (fun q r hq hs => Ueps _ q r hq (eps_up hs (fun h => h) (fun _ => decide_eq_true rfl)))) h2
    have := hU (str.size - from_) (by omega) q h.2
    rwa [show from_ + (str.size - from_) = str.size by omega] at this
theorem ans_iff (hok : OkProg p) {from_ : Nat} (hfrom : from_ ≤ str.size) : AnsP p str from_ ↔ (runS p str from_).isSome = true := ⟨run_of_ans hok hfrom, ans_of_run hok hfrom⟩
end
end Go.Proofs.Qxb6500283aGreat
