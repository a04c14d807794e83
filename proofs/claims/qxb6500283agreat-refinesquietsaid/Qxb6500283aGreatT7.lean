/- A core tree is in order. -/
import Derived.Test.Qxb6500283aGreatT6
import Derived.Test.Qxb6500283aGreatS6
namespace Go.Proofs.Qxb6500283aGreat

/-- One turn of the check: node i, the roots that wait ahead of it and behind it (the last first). -/
inductive Ck (ns : List Nd) (N g i : Nat) : List Nat → List Nat → Prop
  | leaf {S : List Nat} {n : Nd} : ns[i]? = some n → (n = leafNd 0 noP ∨ n = leafNd 2 noP ∨ n = leafNd 3 noP) → Ck ns N g i S (i :: S)
  | set {S : List Nat} {P : BSet} : ns[i]? = some (leafNd 1 P) → (setE P = true → N ≤ 1) → Ck ns N g i S (i :: S)
  | cat {S : List Nat} {A B : Nat} {na nb : Nd} : ns[i]? = some (catNd A B) → ns[A]? = some na → na.kind ≠ 0 → ns[B]? = some nb → nb.kind ≠ 0 → Ck ns N g i (B :: A :: S) (i :: S)
  | alt {S : List Nat} {A B : Nat} : ns[i]? = some (altNd A B) → Ck ns N g i (B :: A :: S) (i :: S)
  | grp {S : List Nat} {A c : Nat} : ns[i]? = some (grpNd A c) → 1 ≤ c → c ≤ g → Ck ns N g i (A :: S) (i :: S)
  | rep {S : List Nat} {A : Nat} {lz : Bool} : ns[i]? = some (repNd A 0 (-1) lz) → nul ns A = false → Ck ns N g i (A :: S) (i :: S)
inductive Chk (ns : List Nd) (N g : Nat) : Nat → List Nat → Prop
  | nil : Chk ns N g 0 []
  | step {i : Nat} {S S' : List Nat} : Chk ns N g i S → Ck ns N g i S S' → Chk ns N g (i + 1) S'
/-- The stacks, turn by turn. -/
theorem Chk.path {ns : List Nd} {N g n : Nat} {S : List Nat} (h : Chk ns N g n S) : ∃ f : Nat → List Nat, f 0 = [] ∧ f n = S ∧ ∀ i, i < n → Ck ns N g i (f i) (f (i + 1)) := by
  induction h with
  | nil => exact ⟨fun _ => [], rfl, rfl, fun i hi => by omega⟩
  | @step i S S' _ hc ih =>
    obtain ⟨f, h0, h1, h2⟩ := ih
    refine ⟨fun j => if j ≤ i then f j else S', by simp [h0], if_neg (by omega), fun j hj => ?_⟩
    by_cases hji : j < i
    · have e1 : (if j ≤ i then f j else S') = f j := if_pos (by omega)
      have e2 : (if j + 1 ≤ i then f (j + 1) else S') = f (j + 1) := if_pos (by omega)
      show Ck ns N g j (if j ≤ i then f j else S') (if j + 1 ≤ i then f (j + 1) else S')
      rw [e1, e2]
      exact h2 j hji
    · obtain rfl : j = i := by omega
      show Ck ns N g j (if j ≤ j then f j else S') (if j + 1 ≤ j then f (j + 1) else S')
      rw [if_pos (Nat.le_refl _), if_neg (by omega), h1]
      exact hc
def RunK (N g : Nat) (f : Run) : Prop := ∀ ns pre post S, ns = pre ++ f pre.length ++ post → Chk ns N g pre.length S → Chk ns N g (pre.length + (f 0).length) ((pre.length + (f 0).length - 1) :: S)
def RootK (f : Run) : Prop := ∀ b, ∃ n, (f b)[(f 0).length - 1]? = some n ∧ n.kind ≠ 0
section
variable {N g : Nat} {f h : Run} {t u : Rx}
theorem RootK.at_ (hf : Mv f) (hr : RootK f) {ns pre post : List Nd} (e : ns = pre ++ f pre.length ++ post) : ∃ n, ns[pre.length + (f 0).length - 1]? = some n ∧ n.kind ≠ 0 := by
  obtain ⟨n, h1, h2⟩ := hr pre.length
  have hn := hf.ne
  refine ⟨n, ?_, h2⟩
  rw [e]
  refine get_app ?_
  rw [show pre.length + (f 0).length - 1 = pre.length + ((f 0).length - 1) by omega, List.getElem?_append_right (by omega), Nat.add_sub_cancel_left]
  exact h1
theorem get_mid (pre : List Nd) (n : Nd) (post : List Nd) : (pre ++ n :: post)[pre.length]? = some n := by simp
theorem RunK.join {mk : Nat → Nat → Nd} (hf : Mv f) (hh : Mv h) (k1 : RunK N g f) (k2 : RunK N g h)
    (hc : ∀ ns i A B S, ns[i]? = some (mk A B) → (∃ n, ns[A]? = some n ∧ ((∃ b n', (f b)[(f 0).length - 1]? = some n' ∧ n = n') )) → (∃ n, ns[B]? = some n ∧ ((∃ b n', (h b)[(h 0).length - 1]? = some n' ∧ n = n'))) → Ck ns N g i (B :: A :: S) (i :: S)) : RunK N g (joinW mk f h) := by
  intro ns pre post S e hC
  have n1 := hf.ne
  have n2 := hh.ne
  rw [joinW_len hf hh]
  have e1 : (pre ++ f pre.length).length = pre.length + (f 0).length := by rw [List.length_append, hf.len]
  have e0 : joinW mk f h pre.length = f pre.length ++ h (pre.length + (f 0).length) ++ [mk (pre.length + (f 0).length - 1) (pre.length + (f 0).length + (h 0).length - 1)] := by
    unfold joinW
    rw [hf.len pre.length, hh.len (pre.length + (f 0).length)]
  rw [e0] at e
  have a := k1 ns pre (h (pre.length + (f 0).length) ++ [mk (pre.length + (f 0).length - 1) (pre.length + (f 0).length + (h 0).length - 1)] ++ post) S (by rw [e]; simp) hC
  have b := k2 ns (pre ++ f pre.length) ([mk (pre.length + (f 0).length - 1) (pre.length + (f 0).length + (h 0).length - 1)] ++ post) _ (by rw [e, e1]; simp) (by rw [e1]; exact a)
  rw [e1] at b
  have hl : (pre ++ f pre.length ++ h (pre.length + (f 0).length)).length = pre.length + (f 0).length + (h 0).length := by rw [List.length_append, e1, hh.len (pre.length + (f 0).length)]
  have g1 : ns[pre.length + (f 0).length + (h 0).length]? = some (mk (pre.length + (f 0).length - 1) (pre.length + (f 0).length + (h 0).length - 1)) := by
    have := get_mid (pre ++ f pre.length ++ h (pre.length + (f 0).length)) (mk (pre.length + (f 0).length - 1) (pre.length + (f 0).length + (h 0).length - 1)) post
    rw [hl] at this
    have e' : ns = pre ++ f pre.length ++ h (pre.length + (f 0).length) ++ mk (pre.length + (f 0).length - 1) (pre.length + (f 0).length + (h 0).length - 1) :: post := by rw [e]; simp
    rw [e']
    exact this
  have g2 : ∃ n, ns[pre.length + (f 0).length - 1]? = some n ∧ ∃ b n', (f b)[(f 0).length - 1]? = some n' ∧ n = n' := by
    have hlt : (f 0).length - 1 < (f pre.length).length := by rw [hf.len pre.length]; omega
    refine ⟨(f pre.length)[(f 0).length - 1], ?_, pre.length, _, List.getElem?_eq_getElem hlt, rfl⟩
    rw [e, show pre.length + (f 0).length - 1 = pre.length + ((f 0).length - 1) by omega, List.append_assoc, List.getElem?_append_right (by omega), Nat.add_sub_cancel_left, List.append_assoc, List.append_assoc, List.getElem?_append_left hlt, List.getElem?_eq_getElem hlt]
  have g3 : ∃ n, ns[pre.length + (f 0).length + (h 0).length - 1]? = some n ∧ ∃ b n', (h b)[(h 0).length - 1]? = some n' ∧ n = n' := by
    have hlt : (h 0).length - 1 < (h (pre.length + (f 0).length)).length := by rw [hh.len (pre.length + (f 0).length)]; omega
    refine ⟨(h (pre.length + (f 0).length))[(h 0).length - 1], ?_, pre.length + (f 0).length, _, List.getElem?_eq_getElem hlt, rfl⟩
    have e' : ns = (pre ++ f pre.length) ++ (h (pre.length + (f 0).length) ++ ([mk (pre.length + (f 0).length - 1) (pre.length + (f 0).length + (h 0).length - 1)] ++ post)) := by rw [e]; simp
    rw [e', show pre.length + (f 0).length + (h 0).length - 1 = (pre ++ f pre.length).length + ((h 0).length - 1) by rw [e1]; omega, List.getElem?_append_right (by omega), Nat.add_sub_cancel_left, List.getElem?_append_left hlt, List.getElem?_eq_getElem hlt]
  have := Chk.step b (hc ns _ _ _ S g1 g2 g3)
  rw [show pre.length + ((f 0).length + (h 0).length + 1) = pre.length + (f 0).length + (h 0).length + 1 by omega, Nat.add_sub_cancel]
  exact this
theorem root_kind (hr : RootK f) {b : Nat} {n : Nd} (h : (f b)[(f 0).length - 1]? = some n) : n.kind ≠ 0 := by
  obtain ⟨n', h1, h2⟩ := hr b
  rw [h] at h1
  cases h1
  exact h2
theorem RunK.join4 (hf : Mv f) (hh : Mv h) (k1 : RunK N g f) (k2 : RunK N g h) (r1 : RootK f) (r2 : RootK h) : RunK N g (joinW catNd f h) :=
  RunK.join hf hh k1 k2 (fun ns i A B S e1 ⟨n, e2, b, n', e3, e4⟩ ⟨m, e5, c, m', e6, e7⟩ => .cat e1 e2 (by rw [e4]; exact root_kind r1 e3) e5 (by rw [e7]; exact root_kind r2 e6))
theorem RunK.join5 (hf : Mv f) (hh : Mv h) (k1 : RunK N g f) (k2 : RunK N g h) : RunK N g (joinW altNd f h) :=
  RunK.join hf hh k1 k2 (fun _ _ _ _ _ e1 _ _ => .alt e1)
theorem RootK.join {mk : Nat → Nat → Nd} (hmk : ∀ a b, (mk a b).kind ≠ 0) (hf : Mv f) (hh : Mv h) : RootK (joinW mk f h) := fun b => by
  rw [joinW_len hf hh]
  unfold joinW
  refine ⟨mk (b + (f b).length - 1) (b + (f b).length + (h (b + (f b).length)).length - 1), ?_, hmk _ _⟩
  rw [List.getElem?_append_right (by simp only [List.length_append, hf.len, hh.len]; omega)]
  simp only [List.length_append, hf.len, hh.len]
  rw [show (f 0).length + (h 0).length + 1 - 1 - ((f 0).length + (h 0).length) = 0 by omega]
  rfl
theorem RunK.reps (hf : Mv f) (k1 : RunK N g f) (r1 : RootK f) : ∀ k, RunK N g (repsW f (k + 1)) ∧ RootK (repsW f (k + 1))
  | 0 => ⟨k1, r1⟩
  | k + 1 => by
    have ih := RunK.reps hf k1 r1 k
    have hm := hf.reps (k + 1) (by omega)
    exact ⟨RunK.join4 hm hf ih.1 k1 ih.2 r1, RootK.join (fun _ _ => by simp [catNd]) hm hf⟩
theorem RunK.snoc {mk : Nat → Nd} (hf : Mv f) (k1 : RunK N g f) (hc : ∀ (ns pre post : List Nd) S, ns = pre ++ f pre.length ++ mk (pre.length + (f 0).length - 1) :: post → Ck ns N g (pre.length + (f 0).length) ((pre.length + (f 0).length - 1) :: S) ((pre.length + (f 0).length) :: S)) : RunK N g (fun b => f b ++ [mk (b + (f b).length - 1)]) := by
  intro ns pre post S e hC
  have n1 := hf.ne
  have hl : ((fun b => f b ++ [mk (b + (f b).length - 1)]) 0 : List Nd).length = (f 0).length + 1 := by simp
  rw [hl]
  simp only [hf.len pre.length] at e
  have a := k1 ns pre ([mk (pre.length + (f 0).length - 1)] ++ post) S (by rw [e]; simp) hC
  have := Chk.step a (hc ns pre post S (by rw [e]; simp))
  rw [show pre.length + ((f 0).length + 1) = pre.length + (f 0).length + 1 by omega, Nat.add_sub_cancel]
  exact this
theorem RootK.snoc {mk : Nat → Nd} (hmk : ∀ a, (mk a).kind ≠ 0) (hf : Mv f) : RootK (fun b => f b ++ [mk (b + (f b).length - 1)]) := fun b => by
  have hl : ((fun b => f b ++ [mk (b + (f b).length - 1)]) 0 : List Nd).length = (f 0).length + 1 := by simp
  rw [hl]
  refine ⟨mk (b + (f b).length - 1), ?_, hmk _⟩
  rw [show (f 0).length + 1 - 1 = (f b).length by rw [hf.len b]; omega]
  simp
theorem snoc_at (hf : Mv f) (pre : List Nd) (n : Nd) (post : List Nd) : (pre ++ f pre.length ++ n :: post)[pre.length + (f 0).length]? = some n := by
  have := get_mid (pre ++ f pre.length) n post
  rw [List.length_append, hf.len] at this
  exact this
theorem RunK.star (hf : Mv f) (k1 : RunK N g f) (hT : RunT f t) (hn : nulR t = false) (lz : Bool) : RunK N g (starW f lz) :=
  RunK.snoc (mk := fun a => repNd a 0 (-1) lz) hf k1 (fun ns pre post S e => .rep (lz := lz) (by rw [e]; exact snoc_at hf pre _ post) (by
    have := ((hT pre).app (repNd (pre.length + (f 0).length - 1) 0 (-1) lz :: post)).nul
    rw [e, this]
    exact hn))
theorem RunK.grp (hf : Mv f) (k1 : RunK N g f) {c : Nat} (h1 : 1 ≤ c) (h2 : c ≤ g) : RunK N g (grpW c f) :=
  RunK.snoc (mk := fun a => grpNd a c) hf k1 (fun ns pre post S e => .grp (by rw [e]; exact snoc_at hf pre _ post) h1 h2)
theorem RunK.one {n : Nd} (h : ∀ ns i S, ns[i]? = some n → Ck ns N g i S (i :: S)) : RunK N g (fun _ => [n]) := by
  intro ns pre post S e hC
  have := Chk.step hC (h ns pre.length S (by rw [e]; simp))
  simpa using this
theorem RunK.optC (hf : Mv f) (k1 : RunK N g f) (lz : Bool) : RunK N g (optC lz f) := by
  have hE : RunK N g (fun _ => [leafNd 0 noP]) := RunK.one (fun ns i S e => .leaf e (.inl rfl))
  have mE : Mv (fun _ => [leafNd 0 noP]) := Mv.one _ (fun o => shift_leaf o _ _)
  cases lz with
  | true =>
    have := RunK.join5 (N := N) (g := g) mE hf hE k1
    have e : joinW altNd (fun _ => [leafNd 0 noP]) f = Go.Proofs.Qxb6500283aGreat.optC true f := by
      funext b
      simp [joinW, Go.Proofs.Qxb6500283aGreat.optC]
    rw [← e]
    exact this
  | false =>
    have := RunK.join5 (N := N) (g := g) hf mE k1 hE
    have e : joinW altNd f (fun _ => [leafNd 0 noP]) = Go.Proofs.Qxb6500283aGreat.optC false f := by
      funext b
      simp [joinW, Go.Proofs.Qxb6500283aGreat.optC]
    rw [← e]
    exact this
theorem RootK.optC (hf : Mv f) (lz : Bool) : RootK (optC lz f) := by
  have mE : Mv (fun _ => [leafNd 0 noP]) := Mv.one _ (fun o => shift_leaf o _ _)
  cases lz with
  | true =>
    have e : joinW altNd (fun _ => [leafNd 0 noP]) f = Go.Proofs.Qxb6500283aGreat.optC true f := by
      funext b
      simp [joinW, Go.Proofs.Qxb6500283aGreat.optC]
    rw [← e]
    exact RootK.join (fun _ _ => by simp [altNd]) mE hf
  | false =>
    have e : joinW altNd f (fun _ => [leafNd 0 noP]) = Go.Proofs.Qxb6500283aGreat.optC false f := by
      funext b
      simp [joinW, Go.Proofs.Qxb6500283aGreat.optC]
    rw [← e]
    exact RootK.join (fun _ _ => by simp [altNd]) hf mE
theorem RunK.opt (hf : Mv f) (k1 : RunK N g f) (r1 : RootK f) (lz : Bool) : ∀ k, RunK N g (optW f lz (k + 1)) ∧ RootK (optW f lz (k + 1))
  | 0 => ⟨RunK.optC (f := optX f (optW f lz 0) 0) hf k1 lz, RootK.optC (f := optX f (optW f lz 0) 0) hf lz⟩
  | k + 1 => by
    have ih := RunK.opt hf k1 r1 lz k
    have ho := Mv.opt hf lz (k + 1) (by omega)
    exact ⟨RunK.optC (f := optX f (optW f lz (k + 1)) (k + 1)) (hf.join shift_cat ho) (RunK.join4 hf ho k1 ih.1 r1 ih.2) lz, RootK.optC (f := optX f (optW f lz (k + 1)) (k + 1)) (hf.join shift_cat ho) lz⟩
theorem RunK.unroll (hf : Mv f) (k1 : RunK N g f) (r1 : RootK f) (hT : RunT f t) {mn : Nat} {mx : Int} (lz : Bool) (h0 : mx ≠ 0) (h2 : 0 ≤ mx → (mn : Int) ≤ mx) (hn : mx < 0 → nulR t = false) : RunK N g (unrollW f mn mx lz) ∧ RootK (unrollW f mn mx lz) := by
  have hcat : ∀ a b, (catNd a b).kind ≠ 0 := fun _ _ => by simp [catNd]
  have rs : RootK (starW f lz) := RootK.snoc (mk := fun a => repNd a 0 (-1) lz) (fun _ => by simp [repNd]) hf
  unfold unrollW
  by_cases hm : mx < 0
  · rw [if_pos hm]
    have ks := k1.star hf hT (hn hm) lz
    by_cases hz : mn = 0
    · rw [if_pos hz]; exact ⟨ks, rs⟩
    · rw [if_neg hz]
      obtain ⟨m, rfl⟩ : ∃ m, mn = m + 1 := ⟨mn - 1, by omega⟩
      have hr := k1.reps hf r1 m
      have hm := hf.reps (m + 1) (by omega)
      exact ⟨RunK.join4 hm (hf.star lz) hr.1 ks hr.2 rs, RootK.join hcat hm (hf.star lz)⟩
  · rw [if_neg hm]
    by_cases hlt : (mn : Int) < mx
    · rw [if_pos hlt]
      obtain ⟨k, hk⟩ : ∃ k, mx.toNat - mn = k + 1 := ⟨mx.toNat - mn - 1, by omega⟩
      rw [hk]
      have ko := k1.opt hf r1 lz k
      by_cases hz : mn = 0
      · rw [if_pos hz]; exact ko
      · rw [if_neg hz]
        obtain ⟨m, rfl⟩ : ∃ m, mn = m + 1 := ⟨mn - 1, by omega⟩
        have hr := k1.reps hf r1 m
        have hm := hf.reps (m + 1) (by omega)
        exact ⟨RunK.join4 hm (hf.opt lz _ (by omega)) hr.1 ko.1 hr.2 ko.2, RootK.join hcat hm (hf.opt lz _ (by omega))⟩
    · rw [if_neg hlt]
      obtain ⟨m, rfl⟩ : ∃ m, mn = m + 1 := ⟨mn - 1, by omega⟩
      exact k1.reps hf r1 m
end
/-- Group numbers in range; what repeats without bound takes a byte. -/
def RxOk (g : Nat) : Rx → Prop
  | .cat a b => RxOk g a ∧ RxOk g b
  | .alt a b => RxOk g a ∧ RxOk g b
  | .grp a k => RxOk g a ∧ 1 ≤ k ∧ k ≤ g
  | .rep a _ mx _ => RxOk g a ∧ (mx < 0 → nulR a = false)
  | _ => True
theorem IsT.ok {ns : List Nd} {g : Nat} (hf : ∀ n ∈ ns, FormNd g n) (hl : LoopOk ns) {k : Nat} {r : Rx} (h : IsT ns k r) : RxOk g r := by
  induction h with
  | emp => trivial
  | set => trivial
  | bol => trivial
  | eol => trivial
  | cat _ _ _ _ _ _ _ _ ih1 ih2 => exact ⟨ih1, ih2⟩
  | alt _ _ _ _ _ _ _ _ ih1 ih2 => exact ⟨ih1, ih2⟩
  | @rep k A m n a h e e1 e2 l1 hA ih1 =>
    refine ⟨ih1, fun hx => ?_⟩
    have := hl n (List.mem_of_getElem? h) e hx
    rw [e1, Int.toNat_natCast, hA.nul] at this
    exact this
  | @grp k A c n a h e e1 e2 l1 hA ih1 =>
    have := hf n (List.mem_of_getElem? h)
    refine ⟨ih1, ?_⟩
    rcases this with ⟨_, h⟩ | h | h | h | ⟨_, _, h⟩ | ⟨_, _, h⟩ | ⟨_, _, _, _, h⟩ | ⟨a', c', h1, h2, h⟩
    · subst h; simp [leafNd] at e
    · subst h; simp [leafNd] at e
    · subst h; simp [leafNd] at e
    · subst h; simp [leafNd] at e
    · subst h; simp [catNd] at e
    · subst h; simp [altNd] at e
    · subst h; simp [repNd] at e
    · subst h
      have e3 : (c' : Int) = (c : Nat) := e2
      omega
theorem nul_co : ∀ r, RxB r → (sh r = 0 → nulR r = true) ∧ (sh r = 1 → nulR r = false) ∧ (sh r = 2 → nulR (co r) = nulR r)
  | .emp, _ => ⟨fun _ => rfl, fun h => (by cases h), fun h => (by cases h)⟩
  | .set P, _ => ⟨fun h => (by simp only [sh] at h; split at h <;> cases h), fun _ => rfl, fun _ => rfl⟩
  | .bol, _ => ⟨fun h => (by cases h), fun h => (by cases h), fun _ => rfl⟩
  | .eol, _ => ⟨fun h => (by cases h), fun h => (by cases h), fun _ => rfl⟩
  | .cat a b, hb => by
    obtain ⟨a0, a1, a2⟩ := nul_co a hb.1
    obtain ⟨b0, b1, b2⟩ := nul_co b hb.2
    have sA := sh_le a
    have sB := sh_le b
    simp only [sh, nulR, co]
    by_cases c1 : sh a = 1 ∨ sh b = 1
    · rw [if_pos c1]
      refine ⟨fun h => (by cases h), fun _ => ?_, fun h => (by cases h)⟩
      rcases c1 with c1 | c1
      · rw [a1 c1]; rfl
      · rw [b1 c1]; simp
    rw [if_neg c1]
    by_cases c2 : sh a = 0
    · rw [if_pos c2, if_pos c2, a0 c2]
      simpa using ⟨b0, b1, b2⟩
    · rw [if_neg c2, if_neg c2]
      refine ⟨fun h => (by cases h), fun h => (by cases h), fun _ => ?_⟩
      by_cases c3 : sh b = 0
      · rw [if_pos c3, b0 c3, a2 (by omega)]; simp
      · rw [if_neg c3]
        simp only [nulR]
        rw [a2 (by omega), b2 (by omega)]
  | .alt a b, hb => by
    obtain ⟨a0, a1, a2⟩ := nul_co a hb.1
    obtain ⟨b0, b1, b2⟩ := nul_co b hb.2
    have sA := sh_le a
    have sB := sh_le b
    have ch : ∀ x, (sh x = 0 → nulR x = true) → (sh x = 1 → nulR x = false) → (sh x = 2 → nulR (co x) = nulR x) → nulR (chR (sh x) (co x)) = nulR x := fun x x0 x1 x2 => by
      have := sh_le x
      unfold chR
      by_cases h2 : sh x = 2
      · rw [if_pos h2]; exact x2 h2
      · rw [if_neg h2]
        by_cases h0 : sh x = 0
        · rw [if_pos h0, x0 h0]; rfl
        · rw [if_neg h0, x1 (by omega)]; rfl
    simp only [sh, nulR, co]
    by_cases c1 : sh a = 1
    · rw [if_pos c1, if_pos c1, a1 c1]
      simpa using ⟨b0, b1, b2⟩
    rw [if_neg c1, if_neg c1]
    by_cases c2 : sh b = 1
    · rw [if_pos c2, if_pos c2, b1 c2]
      simpa using ⟨a0, a1, a2⟩
    rw [if_neg c2, if_neg c2]
    by_cases c3 : sh a = 0 ∧ sh b = 0
    · rw [if_pos c3, a0 c3.1]
      exact ⟨fun _ => rfl, fun h => (by cases h), fun h => (by cases h)⟩
    · rw [if_neg c3]
      refine ⟨fun h => (by cases h), fun h => (by cases h), fun _ => ?_⟩
      simp only [nulR]
      rw [ch a a0 a1 a2, ch b b0 b1 b2]
  | .grp a k, hb => by
    obtain ⟨a0, a1, a2⟩ := nul_co a hb
    have sA := sh_le a
    simp only [sh, nulR, co]
    by_cases c1 : sh a = 1
    · rw [if_pos c1]
      exact ⟨fun h => (by cases h), fun _ => a1 c1, fun h => (by cases h)⟩
    · rw [if_neg c1]
      refine ⟨fun h => (by cases h), fun h => (by cases h), fun _ => ?_⟩
      unfold chR
      by_cases h2 : sh a = 2
      · rw [if_pos h2]; exact a2 h2
      · rw [if_neg h2, if_pos (by omega), a0 (by omega)]; rfl
  | .rep a mn mx lz, hb => by
    obtain ⟨a0, a1, a2⟩ := nul_co a hb.1
    have sA := sh_le a
    simp only [sh, nulR, co]
    by_cases c1 : sh a = 1 ∧ 0 < mn
    · rw [if_pos c1]
      refine ⟨fun h => (by cases h), fun _ => ?_, fun h => (by cases h)⟩
      rw [a1 c1.1]
      simp
      omega
    rw [if_neg c1]
    by_cases c2 : sh a ≠ 2 ∨ mx = 0
    · rw [if_pos c2]
      refine ⟨fun _ => ?_, fun h => (by cases h), fun h => (by cases h)⟩
      by_cases hz : mn = 0
      · simp [hz]
      · have h3 : mx ≠ 0 := fun h => by have := hb.2 (by omega); omega
        rw [a0 (by omega)]; simp
    · rw [if_neg c2]
      refine ⟨fun h => (by cases h), fun h => (by cases h), fun _ => ?_⟩
      have e := a2 (by omega)
      have reps : ∀ k, nulR (repsR (co a) (k + 1)) = nulR a := by
        intro k
        induction k with
        | zero => exact e
        | succ k ih =>
          show (nulR (repsR (co a) (k + 1)) && nulR (co a)) = _
          rw [ih, e]; simp
      have opt : ∀ k, nulR (optR (co a) lz (k + 1)) = true := by
        intro k
        cases lz
        · show (nulR (optXR (co a) (optR (co a) false k) k) || true) = true
          simp
        · show (true || nulR (optXR (co a) (optR (co a) true k) k)) = true
          simp
      unfold unrollR
      by_cases hm : mx < 0
      · rw [if_pos hm]
        by_cases hz : mn = 0
        · rw [if_pos hz, hz]; simp [starR, nulR]
        · rw [if_neg hz]
          obtain ⟨m, rfl⟩ : ∃ m, mn = m + 1 := ⟨mn - 1, by omega⟩
          show (nulR (repsR (co a) (m + 1)) && true) = _
          rw [reps]; simp
      · rw [if_neg hm]
        by_cases hlt : (mn : Int) < mx
        · rw [if_pos hlt]
          obtain ⟨k, hk⟩ : ∃ k, mx.toNat - mn = k + 1 := ⟨mx.toNat - mn - 1, by omega⟩
          rw [hk]
          by_cases hz : mn = 0
          · rw [if_pos hz, opt, hz]; simp
          · rw [if_neg hz]
            obtain ⟨m, rfl⟩ : ∃ m, mn = m + 1 := ⟨mn - 1, by omega⟩
            show (nulR (repsR (co a) (m + 1)) && nulR (optR (co a) lz (k + 1))) = _
            rw [reps, opt]; simp
        · rw [if_neg hlt]
          obtain ⟨m, rfl⟩ : ∃ m, mn = m + 1 := ⟨mn - 1, by omega⟩
          rw [reps]; simp
end Go.Proofs.Qxb6500283aGreat
