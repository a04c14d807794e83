import Derived.Test.Qxb6500283aGreatS3
namespace Go.Proofs.Qxb6500283aGreat

/-! The builder's tasks. -/
inductive Tk
  | build (n : Nat)
  | child (n : Nat)
  | join (n : Nat)
  | group (n : Nat)
  | unroll (n at_ : Nat) (e : Int)
abbrev BSt := List Nd × List Nat
def ndAt (ns : List Nd) (n : Nat) : Nd := ns.getD n ⟨0, 0, 0, 0, 0, 0, false, noP⟩
def twoNd (k : Int) (a b : Nat) : Nd := ⟨k, a, b, 0, 0, 0, false, noP⟩
def runSt (f : Run) (s : BSt) : BSt := (s.1 ++ f s.1.length, (s.1.length + (f s.1.length).length - 1) :: s.2)
def unrollOf (ns : List Nd) (n : Nat) : Run := unrollW (bld ns (ndAt ns n).a.toNat) (ndAt ns n).mn.toNat (ndAt ns n).mx (ndAt ns n).lz
def baseOf (at_ : Nat) (e : Int) : Nat := if e < 0 then at_ else at_ - 1
def den (ns : List Nd) (t : Tk) (s : BSt) : BSt := match t with
  | .build n => runSt (bld ns n) s
  | .child n => runSt (chdW (zz ns n) (bld ns n)) s
  | .join n => match s.2 with
    | b :: a :: r => (s.1 ++ [twoNd (ndAt ns n).kind a b], s.1.length :: r)
    | r => (s.1, r)
  | .group n => match s.2 with
    | a :: r => (s.1 ++ [grpNd a (ndAt ns n).cap.toNat], s.1.length :: r)
    | r => (s.1, r)
  | .unroll n at_ e => (s.1.take (baseOf at_ e) ++ unrollOf ns n (baseOf at_ e), (baseOf at_ e + (unrollOf ns n (baseOf at_ e)).length - 1) :: s.2.tail)
def denL (ns : List Nd) (ws : List Tk) (s : BSt) : BSt := ws.foldl (fun s t => den ns t s) s
def optLz (n : Nd) : Bool := decide (n.mn = 0) && decide (0 < n.mx) && n.lz
inductive WOk (ns : List Nd) (E : Nat) : Nat → Nat → List Tk → Prop
  | nil {R : Nat} : WOk ns E E R []
  | build {L R n : Nat} {ws : List Tk} : n < ns.length → (zz ns n).1 = 2 → R + n + 1 ≤ 25 → ws.length + 2 * n + 3 ≤ 49 → WOk ns E (L + (bld ns n 0).length) (R + 1) ws → WOk ns E L R (.build n :: ws)
  | child {L R n : Nat} {ws : List Tk} : n < ns.length → R + n + 1 ≤ 25 → ws.length + 2 * n + 3 ≤ 49 → WOk ns E (L + (chdW (zz ns n) (bld ns n) 0).length) (R + 1) ws → WOk ns E L R (.child n :: ws)
  | join {L R n : Nat} {ws : List Tk} : n < ns.length → 2 ≤ R → R ≤ 25 → ws.length ≤ 48 → WOk ns E (L + 1) (R - 1) ws → WOk ns E L R (.join n :: ws)
  | group {L R n : Nat} {ws : List Tk} : n < ns.length → 1 ≤ R → R ≤ 25 → ws.length ≤ 48 → WOk ns E (L + 1) R ws → WOk ns E L R (.group n :: ws)
  | unroll {L R n at_ : Nat} {e : Int} {ws : List Tk} : (h : n < ns.length) → ns[n].kind = 6 → (zz ns n).1 = 2 → 1 ≤ R → R ≤ 25 → ws.length ≤ 48 → L = at_ + (bld ns ns[n].a.toNat 0).length → (e = -1 ∧ optLz ns[n] = false ∨ e = (at_ : Int) - 1 ∧ 1 ≤ at_ ∧ optLz ns[n] = true) → WOk ns E (baseOf at_ e + (unrollOf ns n 0).length) R ws → WOk ns E L R (.unroll n at_ e :: ws)
section
variable {ns : List Nd} {E L R : Nat} {ws : List Tk}
theorem ndAt_eq {n : Nat} (h : n < ns.length) : ndAt ns n = ns[n] := by simp [ndAt, h]
theorem child_len {n : Nat} (hC : CoreOk ns n) : 1 ≤ (chdW (zz ns n) (bld ns n) 0).length := hC.chd.1.ne
theorem optW_ge {f : Run} (hf : Mv f) (lz : Bool) {k : Nat} (hk : 1 ≤ k) : (f 0).length + (if lz then 1 else 0) ≤ (optW f lz k 0).length := by
  have h := optW_len hf lz k hk
  have : 1 * ((f 0).length + 3) ≤ k * ((f 0).length + 3) := Nat.mul_le_mul_right _ hk
  split <;> omega
theorem repsW_ge {f : Run} (hf : Mv f) {k : Nat} (hk : 1 ≤ k) : (f 0).length ≤ (repsW f k 0).length := by
  have h := repsW_len hf k hk
  have : 1 * ((f 0).length + 1) ≤ k * ((f 0).length + 1) := Nat.mul_le_mul_right _ hk
  omega
theorem unrollW_ge {f : Run} (hf : Mv f) {mn : Nat} {mx : Int} (lz : Bool) (h0 : mx ≠ 0) (h1 : 0 ≤ mx → (mn : Int) ≤ mx) : (f 0).length + (if mn = 0 ∧ 0 < mx ∧ lz = true then 1 else 0) ≤ (unrollW f mn mx lz 0).length := by
  unfold unrollW
  by_cases hx : mx < 0
  · rw [if_pos hx, if_neg (by omega)]
    split
    · rw [starW_len hf]; omega
    · rw [joinW_len (hf.reps mn (by omega)) (hf.star lz), starW_len hf]; omega
  · rw [if_neg hx]
    by_cases hlt : (mn : Int) < mx
    · rw [if_pos hlt]
      have ho := optW_ge hf lz (k := mx.toNat - mn) (by omega)
      by_cases hm : mn = 0
      · rw [if_pos hm]
        subst hm
        cases lz with
        | true =>
          rw [if_pos ⟨rfl, by omega, rfl⟩]
          exact ho
        | false =>
          rw [if_neg (by simp)]
          exact ho
      · rw [if_neg hm, joinW_len (hf.reps mn (by omega)) (hf.opt lz _ (by omega)), if_neg (by omega)]
        have := repsW_ge hf (k := mn) (by omega)
        omega
    · rw [if_neg hlt, if_neg (by omega)]
      exact repsW_ge hf (by omega)
end
section
variable {ns : List Nd} (hwf : WF ns) (hrb : ∀ k (h : k < ns.length), RB ns[k]) {E : Nat}
include hwf hrb
omit hrb in
theorem whole_rep {n : Nat} (hn : n < ns.length) (hk : ns[n].kind = 6) (hw : (zz ns n).1 = 2) : (zz ns ns[n].a.toNat).1 = 2 ∧ ns[n].mx ≠ 0 := by
  have hz := zz_eq hwf n hn
  unfold zNd at hz
  simp [hk] at hz
  rw [hz] at hw
  unfold repZ at hw
  split at hw
  · cases hw
  · split at hw
    · cases hw
    · rename_i h
      have : zAt (zL ns) ns[n].a = zz ns ns[n].a.toNat := rfl
      rw [this] at h
      omega
theorem unroll_facts {n : Nat} (hn : n < ns.length) (hk : ns[n].kind = 6) (hw : (zz ns n).1 = 2) : Mv (bld ns ns[n].a.toNat) ∧ Mv (unrollOf ns n) ∧ (bld ns ns[n].a.toNat 0).length + (if optLz ns[n] then 1 else 0) ≤ (unrollOf ns n 0).length := by
  have h1 := whole_rep hwf hn hk hw
  have hok := hwf n hn
  obtain ⟨r1, r2, r3, r4, r5⟩ := hrb n hn hk
  have ha : ns[n].a.toNat < ns.length := by
    rcases hok with ⟨hk2, _⟩ | ⟨hk2, _⟩ | ⟨_, h2, h3, _⟩ <;> omega
  have hm := (core_main hwf hrb _ ha).mv h1.1
  obtain ⟨mn, hmn⟩ : ∃ mn : Nat, ns[n].mn = mn := ⟨ns[n].mn.toNat, by omega⟩
  have hu : unrollOf ns n = unrollW (bld ns ns[n].a.toNat) mn ns[n].mx ns[n].lz := by
    unfold unrollOf
    rw [ndAt_eq hn, hmn]
    rfl
  have hg := unrollW_ge hm (mn := mn) ns[n].lz h1.2 (by rw [← hmn]; exact r5)
  refine ⟨hm, by rw [hu]; exact hm.unroll _ h1.2 (by rw [← hmn]; exact r5), ?_⟩
  rw [hu]
  have : (if optLz ns[n] then 1 else 0 : Nat) = (if mn = 0 ∧ 0 < ns[n].mx ∧ ns[n].lz = true then 1 else 0) := by
    unfold optLz
    rw [hmn]
    by_cases h1 : mn = 0 <;> by_cases h2 : 0 < ns[n].mx <;> by_cases h3 : ns[n].lz = true <;> simp [h1, h2, h3]
  rw [this]
  exact hg
theorem WOk.le {L R : Nat} {ws : List Tk} (h : WOk ns E L R ws) : L ≤ E := by
  induction h with
  | nil => exact Nat.le_refl _
  | build => omega
  | child => omega
  | join => omega
  | group => omega
  | unroll hn hk hw _ _ _ hL he _ ih =>
    have h3 := (unroll_facts hwf hrb hn hk hw).2.2
    unfold baseOf at ih
    rcases he with ⟨rfl, ho⟩ | ⟨rfl, h1, ho⟩
    · rw [ho] at h3; simp at ih h3; omega
    · rw [ho] at h3
      rw [if_neg (by omega)] at ih
      simp at h3; omega
end
end Go.Proofs.Qxb6500283aGreat
