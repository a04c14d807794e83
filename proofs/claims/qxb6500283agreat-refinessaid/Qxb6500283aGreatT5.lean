/- Trees in arenas. -/
import Derived.Test.Qxb6500283aGreatT4
import Derived.Test.Qxb6500283aGreatS3
namespace Go.Proofs.Qxb6500283aGreat

inductive IsT (ns : List Nd) : Nat → Rx → Prop
  | emp {k : Nat} {n : Nd} : ns[k]? = some n → n.kind = 0 → IsT ns k .emp
  | set {k : Nat} {n : Nd} : ns[k]? = some n → n.kind = 1 → IsT ns k (.set n.st)
  | bol {k : Nat} {n : Nd} : ns[k]? = some n → n.kind = 2 → IsT ns k .bol
  | eol {k : Nat} {n : Nd} : ns[k]? = some n → n.kind = 3 → IsT ns k .eol
  | cat {k A B : Nat} {n : Nd} {a b : Rx} : ns[k]? = some n → n.kind = 4 → n.a = (A : Nat) → n.b = (B : Nat) → A < k → B < k → IsT ns A a → IsT ns B b → IsT ns k (.cat a b)
  | alt {k A B : Nat} {n : Nd} {a b : Rx} : ns[k]? = some n → n.kind = 5 → n.a = (A : Nat) → n.b = (B : Nat) → A < k → B < k → IsT ns A a → IsT ns B b → IsT ns k (.alt a b)
  | rep {k A m : Nat} {n : Nd} {a : Rx} : ns[k]? = some n → n.kind = 6 → n.a = (A : Nat) → n.mn = (m : Nat) → A < k → IsT ns A a → IsT ns k (.rep a m n.mx n.lz)
  | grp {k A c : Nat} {n : Nd} {a : Rx} : ns[k]? = some n → n.kind = 7 → n.a = (A : Nat) → n.cap = (c : Nat) → A < k → IsT ns A a → IsT ns k (.grp a c)
theorem get_app {ns l : List Nd} {k : Nat} {n : Nd} (h : ns[k]? = some n) : (ns ++ l)[k]? = some n := by
  rw [List.getElem?_eq_some_iff] at h
  obtain ⟨hk, e⟩ := h
  rw [List.getElem?_append_left hk, List.getElem?_eq_some_iff]
  exact ⟨hk, e⟩
theorem IsT.app {ns : List Nd} {k : Nat} {r : Rx} (h : IsT ns k r) (l : List Nd) : IsT (ns ++ l) k r := by
  induction h with
  | emp h e => exact .emp (get_app h) e
  | set h e => exact .set (get_app h) e
  | bol h e => exact .bol (get_app h) e
  | eol h e => exact .eol (get_app h) e
  | cat h e e1 e2 l1 l2 _ _ ih1 ih2 => exact .cat (get_app h) e e1 e2 l1 l2 ih1 ih2
  | alt h e e1 e2 l1 l2 _ _ ih1 ih2 => exact .alt (get_app h) e e1 e2 l1 l2 ih1 ih2
  | rep h e e1 e2 l1 _ ih1 => exact .rep (get_app h) e e1 e2 l1 ih1
  | grp h e e1 e2 l1 _ ih1 => exact .grp (get_app h) e e1 e2 l1 ih1
theorem IsT.lt {ns : List Nd} {k : Nat} {r : Rx} (h : IsT ns k r) : k < ns.length := by
  have key : ∀ {n : Nd}, ns[k]? = some n → k < ns.length := fun h => by
    rw [List.getElem?_eq_some_iff] at h
    exact h.1
  cases h with
  | emp h => exact key h
  | set h => exact key h
  | bol h => exact key h
  | eol h => exact key h
  | cat h => exact key h
  | alt h => exact key h
  | rep h => exact key h
  | grp h => exact key h
/-- A parsed arena is a tree at every node. -/
theorem isT_any {ns : List Nd} (hwf : WF ns) (hrb : ∀ k (h : k < ns.length), RB ns[k]) (hcb : ∀ k (h : k < ns.length), 0 ≤ ns[k].cap) : ∀ k, k < ns.length → ∃ r, IsT ns k r ∧ RxB r := by
  intro k
  induction k using Nat.strongRecOn with
  | ind k ih =>
    intro hk
    have hg : ns[k]? = some ns[k] := List.getElem?_eq_getElem hk
    have hr := hrb k hk
    have hc := hcb k hk
    rcases hwf k hk with ⟨hkd, _, _⟩ | ⟨hkd, h1, h2, h3, h4⟩ | ⟨hkd, h1, h2, _⟩
    · rcases hkd with e | e | e | e
      · exact ⟨_, .emp hg e, trivial⟩
      · exact ⟨_, .set hg e, trivial⟩
      · exact ⟨_, .bol hg e, trivial⟩
      · exact ⟨_, .eol hg e, trivial⟩
    · obtain ⟨a, ha, ba⟩ := ih ns[k].a.toNat (by omega) (by omega)
      obtain ⟨b, hb, bb⟩ := ih ns[k].b.toNat (by omega) (by omega)
      rcases hkd with e | e
      · exact ⟨_, .cat hg e (by omega) (by omega) (by omega) (by omega) ha hb, ba, bb⟩
      · exact ⟨_, .alt hg e (by omega) (by omega) (by omega) (by omega) ha hb, ba, bb⟩
    · obtain ⟨a, ha, ba⟩ := ih ns[k].a.toNat (by omega) (by omega)
      rcases hkd with e | e
      · obtain ⟨p1, p2, p3, p4, p5⟩ := hr e
        exact ⟨_, .rep hg e (A := ns[k].a.toNat) (m := ns[k].mn.toNat) (by omega) (by omega) (by omega) ha, ba, fun h => by have := p5 h; omega⟩
      · exact ⟨_, .grp hg e (A := ns[k].a.toNat) (c := ns[k].cap.toNat) (by omega) (by omega) (by omega) ha, ba⟩
/-- A run that lays a tree. -/
def RunT (f : Run) (t : Rx) : Prop := ∀ pre : List Nd, IsT (pre ++ f pre.length) (pre.length + (f 0).length - 1) t
theorem get_last (pre : List Nd) (n : Nd) {k : Nat} (h : k = pre.length) : (pre ++ [n])[k]? = some n := by
  subst h
  simp
section
variable {f g : Run} {t u : Rx}
theorem RunT.join4 (hf : Mv f) (hg : Mv g) (h1 : RunT f t) (h2 : RunT g u) : RunT (joinW catNd f g) (.cat t u) := fun pre => by
  have n1 := hf.ne
  have n2 := hg.ne
  rw [joinW_len hf hg]
  have e1 : (pre ++ f pre.length).length = pre.length + (f 0).length := by rw [List.length_append, hf.len]
  have a := h1 pre
  have b := h2 (pre ++ f pre.length)
  rw [e1] at b
  unfold joinW
  rw [hf.len, hg.len, ← List.append_assoc, ← List.append_assoc]
  have hk : pre.length + ((f 0).length + (g 0).length + 1) - 1 = (pre ++ f pre.length ++ g (pre.length + (f 0).length)).length := by rw [List.length_append, e1, hg.len (pre.length + (f 0).length)]; omega
  exact .cat (get_last _ _ hk) rfl rfl rfl (by omega) (by omega) ((a.app _).app _) (b.app _)
theorem RunT.join5 (hf : Mv f) (hg : Mv g) (h1 : RunT f t) (h2 : RunT g u) : RunT (joinW altNd f g) (.alt t u) := fun pre => by
  have n1 := hf.ne
  have n2 := hg.ne
  rw [joinW_len hf hg]
  have e1 : (pre ++ f pre.length).length = pre.length + (f 0).length := by rw [List.length_append, hf.len]
  have a := h1 pre
  have b := h2 (pre ++ f pre.length)
  rw [e1] at b
  unfold joinW
  rw [hf.len, hg.len, ← List.append_assoc, ← List.append_assoc]
  have hk : pre.length + ((f 0).length + (g 0).length + 1) - 1 = (pre ++ f pre.length ++ g (pre.length + (f 0).length)).length := by rw [List.length_append, e1, hg.len (pre.length + (f 0).length)]; omega
  exact .alt (get_last _ _ hk) rfl rfl rfl (by omega) (by omega) ((a.app _).app _) (b.app _)
theorem RunT.reps (hf : Mv f) (h1 : RunT f t) : ∀ k, RunT (repsW f (k + 1)) (repsR t (k + 1))
  | 0 => h1
  | k + 1 => RunT.join4 (hf.reps (k + 1) (by omega)) hf (RunT.reps hf h1 k) h1
theorem RunT.star (hf : Mv f) (h1 : RunT f t) (lz : Bool) : RunT (starW f lz) (starR t lz) := fun pre => by
  have n1 := hf.ne
  rw [starW_len hf]
  have a := h1 pre
  unfold starW starR
  rw [hf.len, ← List.append_assoc]
  have hk : pre.length + ((f 0).length + 1) - 1 = (pre ++ f pre.length).length := by rw [List.length_append, hf.len pre.length]; omega
  exact .rep (m := 0) (n := repNd (pre.length + (f 0).length - 1) 0 (-1) lz) (get_last _ _ hk) rfl rfl rfl (by omega) (a.app _)
theorem RunT.grp (hf : Mv f) (h1 : RunT f t) (c : Nat) : RunT (grpW c f) (.grp t c) := fun pre => by
  have n1 := hf.ne
  have e : (grpW c f 0).length = (f 0).length + 1 := by simp [grpW]
  rw [e]
  have a := h1 pre
  unfold grpW
  rw [hf.len, ← List.append_assoc]
  have hk : pre.length + ((f 0).length + 1) - 1 = (pre ++ f pre.length).length := by rw [List.length_append, hf.len pre.length]; omega
  exact .grp (n := grpNd (pre.length + (f 0).length - 1) c) (get_last _ _ hk) rfl rfl rfl (by omega) (a.app _)
theorem RunT.optC (hf : Mv f) (h1 : RunT f t) (lz : Bool) : RunT (optC lz f) (if lz then .alt .emp t else .alt t .emp) := fun pre => by
  have n1 := hf.ne
  rw [optC_len hf]
  unfold Go.Proofs.Qxb6500283aGreat.optC
  cases lz with
  | true =>
    simp only [if_true]
    have a := h1 (pre ++ [leafNd 0 noP])
    have e : (pre ++ [leafNd 0 noP]).length = pre.length + 1 := by simp
    rw [e] at a
    have b : IsT (pre ++ [leafNd 0 noP]) pre.length .emp := .emp (get_last _ _ rfl) rfl
    rw [hf.len, show pre ++ (leafNd 0 noP :: (f (pre.length + 1) ++ [altNd pre.length (pre.length + 1 + (f 0).length - 1)])) = pre ++ [leafNd 0 noP] ++ f (pre.length + 1) ++ [altNd pre.length (pre.length + 1 + (f 0).length - 1)] by simp]
    have hk : pre.length + ((f 0).length + 2) - 1 = (pre ++ [leafNd 0 noP] ++ f (pre.length + 1)).length := by rw [List.length_append, e, hf.len (pre.length + 1)]; omega
    exact .alt (get_last _ _ hk) rfl rfl rfl (by omega) (by omega) ((b.app _).app _) (a.app _)
  | false =>
    simp only [Bool.false_eq_true, if_false]
    have a := h1 pre
    have e : (pre ++ f pre.length).length = pre.length + (f 0).length := by rw [List.length_append, hf.len]
    have b : IsT (pre ++ f pre.length ++ [leafNd 0 noP]) (pre.length + (f 0).length) .emp := .emp (get_last _ _ e.symm) rfl
    rw [hf.len, show pre ++ (f pre.length ++ [leafNd 0 noP, altNd (pre.length + (f 0).length - 1) (pre.length + (f 0).length)]) = pre ++ f pre.length ++ [leafNd 0 noP] ++ [altNd (pre.length + (f 0).length - 1) (pre.length + (f 0).length)] by simp]
    have hk : pre.length + ((f 0).length + 2) - 1 = (pre ++ f pre.length ++ [leafNd 0 noP]).length := by rw [List.length_append, e, List.length_singleton]; omega
    exact .alt (get_last _ _ hk) rfl rfl rfl (by omega) (by omega) ((a.app _).app _) (b.app _)
theorem RunT.opt (hf : Mv f) (h1 : RunT f t) (lz : Bool) : ∀ k, RunT (optW f lz (k + 1)) (optR t lz (k + 1))
  | 0 => by
    have : RunT (Go.Proofs.Qxb6500283aGreat.optC lz (optX f (optW f lz 0) 0)) (if lz then .alt .emp (optXR t (optR t lz 0) 0) else .alt (optXR t (optR t lz 0) 0) .emp) :=
      RunT.optC (f := optX f (optW f lz 0) 0) hf h1 lz
    exact this
  | k + 1 => by
    have ho := Mv.opt hf lz (k + 1) (by omega)
    exact RunT.optC (f := optX f (optW f lz (k + 1)) (k + 1)) (hf.join shift_cat ho) (RunT.join4 hf ho h1 (RunT.opt hf h1 lz k)) lz
theorem RunT.unroll (hf : Mv f) (h1 : RunT f t) {mn : Nat} {mx : Int} (lz : Bool) (h0 : mx ≠ 0) (h2 : 0 ≤ mx → (mn : Int) ≤ mx) : RunT (unrollW f mn mx lz) (unrollR t mn mx lz) := by
  unfold unrollW unrollR
  by_cases hm : mx < 0
  · rw [if_pos hm, if_pos hm]
    by_cases hz : mn = 0
    · rw [if_pos hz, if_pos hz]; exact h1.star hf lz
    · rw [if_neg hz, if_neg hz]
      obtain ⟨m, rfl⟩ : ∃ m, mn = m + 1 := ⟨mn - 1, by omega⟩
      exact RunT.join4 (hf.reps _ (by omega)) (hf.star lz) (h1.reps hf m) (h1.star hf lz)
  · rw [if_neg hm, if_neg hm]
    by_cases hlt : (mn : Int) < mx
    · rw [if_pos hlt, if_pos hlt]
      obtain ⟨k, hk⟩ : ∃ k, mx.toNat - mn = k + 1 := ⟨mx.toNat - mn - 1, by omega⟩
      rw [hk]
      by_cases hz : mn = 0
      · rw [if_pos hz, if_pos hz]; exact h1.opt hf lz k
      · rw [if_neg hz, if_neg hz]
        obtain ⟨m, rfl⟩ : ∃ m, mn = m + 1 := ⟨mn - 1, by omega⟩
        exact RunT.join4 (hf.reps _ (by omega)) (hf.opt lz _ (by omega)) (h1.reps hf m) (h1.opt hf lz k)
    · rw [if_neg hlt, if_neg hlt]
      obtain ⟨m, rfl⟩ : ∃ m, mn = m + 1 := ⟨mn - 1, by omega⟩
      exact h1.reps hf m
theorem RunT.one (n : Nd) (h : ∀ pre : List Nd, IsT (pre ++ [n]) pre.length t) : RunT (fun _ => [n]) t := fun pre => h pre
end
theorem RunT.chd {z : SZ} {f : Run} {t : Rx} (h : z.1 = 2 → RunT f t) : RunT (chdW z f) (chR z.1 t) := by
  by_cases h2 : z.1 = 2
  · have e : chdW z f = f := by funext b; simp [chdW, h2]
    rw [e, chR, if_pos h2]
    exact h h2
  · by_cases h0 : z.1 = 0
    · have e : chdW z f = fun _ => [leafNd 0 noP] := by funext b; simp [chdW, h0]
      rw [e, chR, if_neg h2, if_pos h0]
      exact RunT.one _ (fun pre => .emp (get_last _ _ rfl) rfl)
    · have e : chdW z f = fun _ => [leafNd 1 noP] := by funext b; simp [chdW, h0, h2]
      rw [e, chR, if_neg h2, if_neg h0]
      exact RunT.one _ (fun pre => .set (n := leafNd 1 noP) (get_last _ _ rfl) rfl)
theorem getE {ns : List Nd} {k : Nat} {n : Nd} (h : ns[k]? = some n) : ∃ hk : k < ns.length, ns[k] = n := List.getElem?_eq_some_iff.1 h
/-- The core form of an arena is the core form of its tree. -/
theorem core_tree {ns : List Nd} (hwf : WF ns) (hrb : ∀ k (h : k < ns.length), RB ns[k]) {x : Nat} {r : Rx} (h : IsT ns x r) : RxB r → (zz ns x).1 = sh r ∧ ((zz ns x).1 = 2 → RunT (bld ns x) (co r)) := by
  induction h with
  | emp h e =>
    obtain ⟨hk, rfl⟩ := getE h
    intro _
    rw [zz_eq hwf _ hk]
    simp [zNd, e, sh]
  | @set k n h e =>
    obtain ⟨hk, rfl⟩ := getE h
    intro _
    rw [zz_eq hwf _ hk, bld_eq hwf hk]
    refine ⟨?_, fun _ => ?_⟩
    · cases hse : setE ns[k].st <;> simp [zNd, e, sh, hse]
    · have : bldB ns (bld ns) ns[k] = fun _ => [ns[k]] := by simp [bldB, e]
      rw [this]
      exact RunT.one _ (fun pre => .set (get_last _ _ rfl) e)
  | @bol k n h e =>
    obtain ⟨hk, rfl⟩ := getE h
    intro _
    rw [zz_eq hwf _ hk, bld_eq hwf hk]
    refine ⟨by simp [zNd, e, sh], fun _ => ?_⟩
    have : bldB ns (bld ns) ns[k] = fun _ => [ns[k]] := by simp [bldB, e]
    rw [this]
    exact RunT.one _ (fun pre => .bol (get_last _ _ rfl) e)
  | @eol k n h e =>
    obtain ⟨hk, rfl⟩ := getE h
    intro _
    rw [zz_eq hwf _ hk, bld_eq hwf hk]
    refine ⟨by simp [zNd, e, sh], fun _ => ?_⟩
    have : bldB ns (bld ns) ns[k] = fun _ => [ns[k]] := by simp [bldB, e]
    rw [this]
    exact RunT.one _ (fun pre => .eol (get_last _ _ rfl) e)
  | @cat k A B n a b h e e1 e2 l1 l2 hA hB ih1 ih2 =>
    obtain ⟨hk, rfl⟩ := getE h
    rintro ⟨b1, b2⟩
    obtain ⟨zA, rA⟩ := ih1 b1
    obtain ⟨zB, rB⟩ := ih2 b2
    have CA := core_main hwf hrb A (by omega)
    have CB' := core_main hwf hrb B (by omega)
    have z1 : zz ns k = catZ (zz ns A) (zz ns B) := by
      rw [zz_eq hwf _ hk]
      simp only [zNd, e]
      rw [e1, e2]
      rfl
    have d1 : bld ns k = if (zz ns A).1 = 0 then bld ns B else if (zz ns B).1 = 0 then bld ns A else joinW catNd (bld ns A) (bld ns B) := by
      rw [bld_eq hwf hk]
      simp only [bldB, e]
      rw [e1, e2]
      rfl
    rw [z1, d1]
    simp only [sh, co]
    unfold catZ
    rw [zA, zB]
    have sA := sh_le a
    have sB := sh_le b
    by_cases c1 : sh a = 1 ∨ sh b = 1
    · rw [if_pos c1, if_pos c1]
      exact ⟨rfl, fun h => absurd h (by decide)⟩
    rw [if_neg c1, if_neg c1]
    by_cases c2 : sh a = 0
    · rw [if_pos c2, if_pos c2, if_pos c2, if_pos c2]
      exact ⟨zB, rB⟩
    rw [if_neg c2, if_neg c2, if_neg c2, if_neg c2]
    have a2 : (zz ns A).1 = 2 := by omega
    by_cases c3 : sh b = 0
    · rw [if_pos c3, if_pos c3, if_pos c3]
      exact ⟨rfl, fun _ => rA a2⟩
    · rw [if_neg c3, if_neg c3, if_neg c3]
      have b2' : (zz ns B).1 = 2 := by omega
      exact ⟨rfl, fun _ => RunT.join4 (CA.mv a2) (CB'.mv b2') (rA a2) (rB b2')⟩
  | @alt k A B n a b h e e1 e2 l1 l2 hA hB ih1 ih2 =>
    obtain ⟨hk, rfl⟩ := getE h
    rintro ⟨b1, b2⟩
    obtain ⟨zA, rA⟩ := ih1 b1
    obtain ⟨zB, rB⟩ := ih2 b2
    have CA := core_main hwf hrb A (by omega)
    have CB' := core_main hwf hrb B (by omega)
    have z1 : zz ns k = altZ (zz ns A) (zz ns B) := by
      rw [zz_eq hwf _ hk]
      simp only [zNd, e]
      rw [e1, e2]
      rfl
    have d1 : bld ns k = if (zz ns A).1 = 1 then bld ns B else if (zz ns B).1 = 1 then bld ns A else joinW altNd (chdW (zz ns A) (bld ns A)) (chdW (zz ns B) (bld ns B)) := by
      rw [bld_eq hwf hk]
      simp only [bldB, e]
      rw [e1, e2]
      rfl
    have kA := RunT.chd (z := zz ns A) rA
    have kB := RunT.chd (z := zz ns B) rB
    rw [zA] at kA
    rw [zB] at kB
    rw [z1, d1]
    simp only [sh, co]
    unfold altZ
    rw [zA, zB]
    have sA := sh_le a
    have sB := sh_le b
    by_cases c1 : sh a = 1
    · rw [if_pos c1, if_pos c1, if_pos c1, if_pos c1]
      exact ⟨zB, rB⟩
    rw [if_neg c1, if_neg c1, if_neg c1, if_neg c1]
    by_cases c2 : sh b = 1
    · rw [if_pos c2, if_pos c2, if_pos c2, if_pos c2]
      exact ⟨zA, rA⟩
    rw [if_neg c2, if_neg c2, if_neg c2, if_neg c2]
    by_cases c3 : sh a = 0 ∧ sh b = 0
    · rw [if_pos c3, if_pos c3]
      exact ⟨rfl, fun h => absurd h (by decide)⟩
    · rw [if_neg c3, if_neg c3]
      exact ⟨rfl, fun _ => RunT.join5 CA.chd.1 CB'.chd.1 kA kB⟩
  | @rep k A m n a h e e1 e2 l1 hA ih1 =>
    obtain ⟨hk, rfl⟩ := getE h
    rintro ⟨b1, b2⟩
    obtain ⟨zA, rA⟩ := ih1 b1
    have CA := core_main hwf hrb A (by omega)
    have z1 : zz ns k = repZ (zz ns A) (m : Nat) ns[k].mx := by
      rw [zz_eq hwf _ hk]
      simp only [zNd, e]
      rw [e1, e2]
      rfl
    have d1 : bld ns k = unrollW (bld ns A) m ns[k].mx ns[k].lz := by
      rw [bld_eq hwf hk]
      simp only [bldB, e]
      rw [e1, e2]
      rfl
    rw [z1, d1]
    simp only [sh, co]
    unfold repZ
    rw [zA]
    have sA := sh_le a
    by_cases c1 : sh a = 1 ∧ 0 < m
    · rw [if_pos (show sh a = 1 ∧ 0 < (m : Int) by omega), if_pos c1]
      exact ⟨rfl, fun h => absurd h (by decide)⟩
    rw [if_neg (show ¬ (sh a = 1 ∧ 0 < (m : Int)) by omega), if_neg c1]
    by_cases c2 : sh a ≠ 2 ∨ ns[k].mx = 0
    · rw [if_pos c2, if_pos c2]
      exact ⟨rfl, fun h => absurd h (by decide)⟩
    · rw [if_neg c2, if_neg c2]
      have a2 : (zz ns A).1 = 2 := by omega
      exact ⟨rfl, fun _ => RunT.unroll (CA.mv a2) (rA a2) _ (by omega) b2⟩
  | @grp k A c n a h e e1 e2 l1 hA ih1 =>
    obtain ⟨hk, rfl⟩ := getE h
    intro b1
    obtain ⟨zA, rA⟩ := ih1 b1
    have CA := core_main hwf hrb A (by omega)
    have z1 : zz ns k = grpZ (zz ns A) := by
      rw [zz_eq hwf _ hk]
      simp only [zNd, e]
      rw [e1]
      rfl
    have d1 : bld ns k = grpW c (chdW (zz ns A) (bld ns A)) := by
      rw [bld_eq hwf hk]
      simp only [bldB, e]
      rw [e1, e2]
      rfl
    have kA := RunT.chd (z := zz ns A) rA
    rw [zA] at kA
    rw [z1, d1]
    simp only [sh, co]
    unfold grpZ
    rw [zA]
    by_cases c1 : sh a = 1
    · rw [if_pos c1, if_pos c1]
      exact ⟨rfl, fun h => absurd h (by decide)⟩
    · rw [if_neg c1, if_neg c1]
      exact ⟨rfl, fun _ => RunT.grp CA.chd.1 kA c⟩
end Go.Proofs.Qxb6500283aGreat
