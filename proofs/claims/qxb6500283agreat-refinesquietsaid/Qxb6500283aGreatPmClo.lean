import Derived.Test.Qxb6500283aGreatPmWSearch
import Derived.Test.Qxb6500283aGreatPkDfs4
namespace Go.Proofs.Qxb6500283aGreat
open Go Go.RowKit

def esucc (p : List In) (str : ByteArray) (pc i : Nat) (c : Nat → Int) : List (Nat × (Nat → Int)) :=
  match p[pc]? with
  | none => []
  | some x =>
    if x.op = 0 then []
    else if x.op = 1 then [(x.x.toNat, c), (x.y.toNat, c)]
    else if x.op = 2 then [(x.x.toNat, c)]
    else if x.op = 3 then [(pc + 1, upd c x.x.toNat i)]
    else if x.op = 4 then (if i = 0 then [(pc + 1, c)] else [])
    else if x.op = 5 then (if i = str.size then [(pc + 1, c)] else [])
    else []
def chars (p : List In) (str : ByteArray) (i pc : Nat) (c : Nat → Int) : List (Nat × (Nat → Int)) :=
  match p[pc]? with
  | none => []
  | some x => if x.op = 0 ∧ i < str.size ∧ hasB x.s0 x.s1 x.s2 x.s3 (bt str i) = true then [(pc + 1, c)] else []
def atP (i : Nat) (S : List (Nat × (Nat → Int))) : List (Nat × Nat × (Nat → Int)) := S.map fun t => (t.1, i, t.2)
def vis (V : List (Nat × (Nat → Int))) : Nat → Bool := fun pc => decide (pc ∈ V.map Prod.fst)
def cloRun (p : List In) (str : ByteArray) (i : Nat) : Nat → List (Nat × (Nat → Int)) → List (Nat × (Nat → Int)) → Option (List (Nat × (Nat → Int)))
  | 0, _, _ => none
  | _ + 1, [], V => some V
  | f + 1, (pc, c) :: S, V => if vis V pc then cloRun p str i f S V else cloRun p str i f (esucc p str pc i c ++ S) (V ++ [(pc, c)])
def cut (p : List In) (str : ByteArray) (i : Nat) : List (Nat × (Nat → Int)) → List (Nat × (Nat → Int)) × Option (Nat → Int)
  | [] => ([], none)
  | (pc, c) :: N => if isM p pc then ([], some c) else (chars p str i pc c ++ (cut p str i N).1, (cut p str i N).2)

section
variable {p : List In} {str : ByteArray} {i : Nat}
theorem cloRun_ext : ∀ (f : Nat) (S V : List (Nat × (Nat → Int))) {V'}, cloRun p str i f S V = some V' → ∃ N, V' = V ++ N
  | 0, _, _, _, h => by simp [cloRun] at h
  | f + 1, [], V, V', h => by simp only [cloRun, Option.some.injEq] at h; exact ⟨[], by simp [h]⟩
  | f + 1, (pc, c) :: S, V, V', h => by
    rw [cloRun] at h
    split at h
    · exact cloRun_ext f S V h
    · obtain ⟨N, hN⟩ := cloRun_ext f _ _ h
      exact ⟨(pc, c) :: N, by rw [hN]; simp⟩
theorem vis_mark (V : List (Nat × (Nat → Int))) (pc : Nat) (c : Nat → Int) : upd (vis V) pc true = vis (V ++ [(pc, c)]) := by
  funext q
  by_cases e : q = pc
  · subst e; simp [upd, vis]
  · simp [upd, vis, e]
theorem upd_updM {α : Type} (f : Nat → α) (o : Nat) (a b : α) : upd (upd f o a) o b = upd f o b := by
  funext k; simp only [upd]; split <;> rfl
theorem upd_self {α : Type} (f : Nat → α) (o : Nat) : upd f o (f o) = f := by
  funext k; simp only [upd]; split
  · subst_vars; rfl
  · rfl
theorem succ_esucc (pc : Nat) (c : Nat → Int) : succ p str pc i c = atP (i + 1) (chars p str i pc c) ++ atP i (esucc p str pc i c) := by
  unfold succ chars esucc atP
  cases hx : p[pc]? with
  | none => simp
  | some x =>
    simp only
    by_cases o0 : x.op = 0
    · simp only [o0, if_true, true_and, List.map_nil, List.append_nil]
      split <;> simp
    · simp only [o0, if_false, false_and, List.map_nil, List.nil_append]
      repeat' split
      all_goals simp
theorem esucc_char {pc : Nat} {c : Nat → Int} (h : chars p str i pc c ≠ []) : esucc p str pc i c = [] ∧ chars p str i pc c = [(pc + 1, c)] := by
  unfold chars at h ⊢
  unfold esucc
  cases hx : p[pc]? with
  | none => simp [hx] at h
  | some x =>
    simp only [hx] at h ⊢
    split at h
    · rename_i h1
      simp [h1]
    · exact absurd rfl h

theorem two_phase : ∀ (f : Nat) (S V N : List (Nat × (Nat → Int))) (sn : Nat → Nat → Bool) (g : Nat) {r sn'}, cloRun p str i f S V = some (V ++ N) → sn i = vis V →
    dfs p str g (atP (i + 1) (cut p str i N).1) (upd sn i (vis (V ++ N))) = some (r, sn') →
    ∃ f' sn'', dfs p str f' (atP i S) sn = some (r.or ((cut p str i N).2.map fun c => (c, i)), sn'') ∧ (r = none → (cut p str i N).2 = none → sn'' = sn')
  | 0, _, _, _, _, _, _, _, h, _, _ => by simp [cloRun] at h
  | f + 1, [], V, N, sn, g, r, sn', h, hv, hd => by
    simp only [cloRun, Option.some.injEq] at h
    have hN : N = [] := by simpa using h
    subst hN
    rw [List.append_nil, ← hv, upd_self] at hd
    simp only [cut, atP, List.map_nil] at hd
    cases g with
    | zero => simp [dfs] at hd
    | succ g =>
      simp only [dfs, Option.some.injEq, Prod.mk.injEq] at hd
      obtain ⟨rfl, rfl⟩ := hd
      exact ⟨1, sn, by simp [dfs, atP, cut], fun _ _ => rfl⟩
  | f + 1, (pc, c) :: S, V, N, sn, g, r, sn', h, hv, hd => by
    rw [cloRun] at h
    split at h
    · rename_i h1
      obtain ⟨f', sn'', k1, k2⟩ := two_phase f S V N sn g h hv hd
      refine ⟨f' + 1, sn'', ?_, k2⟩
      rw [show atP i ((pc, c) :: S) = (pc, i, c) :: atP i S from rfl, dfs, if_pos (by rw [hv]; exact h1)]
      exact k1
    · rename_i h1
      obtain ⟨N', hN⟩ := cloRun_ext f _ _ h
      have hNN : N = (pc, c) :: N' := by
        rw [List.append_assoc] at hN
        simpa using List.append_cancel_left hN
      subst hNN
      rw [hN] at h hd
      have hs1 : mark sn pc i i = vis (V ++ [(pc, c)]) := by
        unfold mark; rw [upd_same, hv, vis_mark]
      have hup : ∀ v, upd (mark sn pc i) i v = upd sn i v := fun v => by unfold mark; rw [upd_updM]
      have hstep : ∀ k, isM p pc = false → dfs p str (k + 1) (atP i ((pc, c) :: S)) sn = dfs p str k (succ p str pc i c ++ atP i S) (mark sn pc i) := fun k hm => by
        rw [show atP i ((pc, c) :: S) = (pc, i, c) :: atP i S from rfl, dfs, if_neg (by rw [hv]; exact h1), hm]
        simp
      cases hm : isM p pc with
      | true =>
        have hc : cut p str i ((pc, c) :: N') = ([], some c) := by simp [cut, hm]
        rw [hc] at hd ⊢
        cases g with
        | zero => simp [dfs] at hd
        | succ g =>
          simp only [atP, List.map_nil, dfs, Option.some.injEq, Prod.mk.injEq] at hd
          obtain ⟨rfl, rfl⟩ := hd
          refine ⟨1, mark sn pc i, ?_, fun _ h => by cases h⟩
          rw [show atP i ((pc, c) :: S) = (pc, i, c) :: atP i S from rfl, dfs, if_neg (by rw [hv]; exact h1), hm]
          simp
      | false =>
        have hc : cut p str i ((pc, c) :: N') = (chars p str i pc c ++ (cut p str i N').1, (cut p str i N').2) := by simp [cut, hm]
        rw [hc] at hd ⊢
        simp only at hd ⊢
        by_cases hch : chars p str i pc c = []
        · have hsu : succ p str pc i c ++ atP i S = atP i (esucc p str pc i c ++ S) := by rw [succ_esucc, hch]; simp [atP]
          rw [hch, List.nil_append, ← hup] at hd
          obtain ⟨f', sn'', k1, k2⟩ := two_phase f _ _ N' (mark sn pc i) g h hs1 hd
          exact ⟨f' + 1, sn'', by rw [hstep f' hm, hsu]; exact k1, k2⟩
        · obtain ⟨e1, e2⟩ := esucc_char hch
          have hsu : succ p str pc i c ++ atP i S = [(pc + 1, i + 1, c)] ++ atP i S := by rw [succ_esucc, e1, e2]; simp [atP]
          rw [e1, List.nil_append] at h
          rw [e2, show atP (i + 1) ([(pc + 1, c)] ++ (cut p str i N').1) = [(pc + 1, i + 1, c)] ++ atP (i + 1) (cut p str i N').1 from rfl, ← hup] at hd
          have hloc : ∀ v, dfs p str g [(pc + 1, i + 1, c)] (upd (mark sn pc i) i v) = (dfs p str g [(pc + 1, i + 1, c)] (mark sn pc i)).map fun x => (x.1, upd x.2 i v) := fun v =>
            dfs_local i v g _ _ (fun t ht => by simp at ht; subst ht; simp)
          rcases dfs_inv g _ _ _ sn' hd with ⟨q, rfl, h3⟩ | ⟨sn1, h3, h4⟩
          · rw [hloc] at h3
            obtain ⟨⟨y1, y2⟩, y3, y4⟩ := Option.map_eq_some_iff.1 h3
            simp only [Prod.mk.injEq] at y4
            obtain ⟨rfl, rfl⟩ := y4
            refine ⟨g + 1, y2, ?_, fun h => by cases h⟩
            rw [hstep g hm, hsu]
            simpa using dfs_hit g _ (atP i S) _ _ y3
          · rw [hloc] at h3
            obtain ⟨⟨y1, y2⟩, y3, y4⟩ := Option.map_eq_some_iff.1 h3
            simp only [Prod.mk.injEq] at y4
            obtain ⟨rfl, rfl⟩ := y4
            have hy : y2 i = vis (V ++ [(pc, c)]) := by
              have := hloc (mark sn pc i i)
              rw [upd_self, y3] at this
              simp only [Option.map_some, Option.some.injEq, Prod.mk.injEq, true_and] at this
              rw [this, upd_same, hs1]
            obtain ⟨f', sn'', k1, k2⟩ := two_phase f S _ N' y2 g h hy h4
            refine ⟨g + f' + 1, sn'', ?_, k2⟩
            rw [hstep _ hm, hsu]
            exact dfs_seq g f' _ _ _ _ y3 k1
end
end Go.Proofs.Qxb6500283aGreat
