/- What the grammar reads: parameters, functions, programs. -/
import Derived.Test.Qxb6500277aGreatPT3
namespace Go.Proofs.Qxb6500277aGreat
open Go Go.RowKit

structure Prm where
  s : ByteArray
  p : Int
  t : Int
def flP (b : Nat) : List Prm → List Nd
  | [] => []
  | [x] => [⟨1, -1, -1, -1, -1, x.t, x.p, x.s⟩]
  | x :: y :: r => ⟨1, -1, -1, -1, ((b + 1 : Nat) : Int), x.t, x.p, x.s⟩ :: flP (b + 1) (y :: r)
def hdP (b : Nat) : List Prm → Int
  | [] => -1
  | _ :: _ => b
theorem flP_len : ∀ (xs : List Prm) (b : Nat), (flP b xs).length = xs.length
  | [], _ => rfl
  | [_], _ => rfl
  | x :: y :: r, b => by simp [flP, flP_len (y :: r) (b + 1)]
theorem lk_prm (x : Prm) : ∀ (ps : List Prm) (a : List Nd) (b : Nat), ps ≠ [] → setNx (a ++ flP b ps ++ [⟨1, -1, -1, -1, -1, x.t, x.p, x.s⟩]) (a.length + ps.length - 1) ((b + ps.length : Nat) : Int) = a ++ flP b (ps ++ [x])
  | [], _, _, h => absurd rfl h
  | [y], a, b, _ => by
    have := setNx_mid a ⟨1, -1, -1, -1, -1, y.t, y.p, y.s⟩ [⟨1, -1, -1, -1, -1, x.t, x.p, x.s⟩] ((b + 1 : Nat) : Int)
    simp only [flP, List.append_assoc, List.length_singleton, List.cons_append, List.nil_append] at this ⊢
    exact this
  | y :: z :: r, a, b, _ => by
    have ih := lk_prm x (z :: r) (a ++ [⟨1, -1, -1, -1, ((b + 1 : Nat) : Int), y.t, y.p, y.s⟩]) (b + 1) (by simp)
    simp only [flP, List.append_assoc, List.length_append, List.length_cons, List.cons_append, List.nil_append] at ih ⊢
    rw [show a.length + (r.length + 1 + 1) - 1 = a.length + 1 + (r.length + 1) - 1 by omega, show b + (r.length + 1 + 1) = b + 1 + (r.length + 1) by omega]
    exact ih
structure Fnc where
  s : ByteArray
  p : Int
  t : Int
  ps : List Prm
  bp : Int
  ss : Stms
def szF (f : Fnc) : Nat := f.ps.length + (szSs f.ss + 1) + 1
def flF (b : Nat) (nx : Int) (f : Fnc) : List Nd := flP b f.ps ++ flB (b + f.ps.length) f.bp f.ss ++ [⟨0, hdP b f.ps, ((b + f.ps.length + szSs f.ss : Nat) : Int), -1, nx, f.t, f.p, f.s⟩]
def rtF (b : Nat) (f : Fnc) : Int := ((b + szF f : Nat) : Int) - 1
def hdF (b : Nat) : List Fnc → Int
  | [] => -1
  | f :: _ => rtF b f
def flFs (b : Nat) : List Fnc → List Nd
  | [] => []
  | f :: r => flF b (hdF (b + szF f) r) f ++ flFs (b + szF f) r
def szFs : List Fnc → Nat
  | [] => 0
  | f :: r => szF f + szFs r
theorem flF_len (b : Nat) (nx : Int) (f : Fnc) : (flF b nx f).length = szF f := by simp [flF, szF, flP_len, flB_len]; omega
theorem flFs_len : ∀ (fs : List Fnc) (b : Nat), (flFs b fs).length = szFs fs
  | [], _ => rfl
  | f :: r, b => by simp [flFs, szFs, flF_len, flFs_len r]
theorem setNx_rootF (a : List Nd) (b : Nat) (nx x : Int) (f : Fnc) (c : List Nd) : setNx (a ++ flF b nx f ++ c) (a.length + szF f - 1) x = a ++ flF b x f ++ c := by
  have := setNx_mid (a ++ (flP b f.ps ++ flB (b + f.ps.length) f.bp f.ss)) ⟨0, hdP b f.ps, ((b + f.ps.length + szSs f.ss : Nat) : Int), -1, nx, f.t, f.p, f.s⟩ c x
  rw [show a.length + szF f - 1 = (a ++ (flP b f.ps ++ flB (b + f.ps.length) f.bp f.ss)).length by simp [flP_len, flB_len, szF]]
  unfold flF
  simp only [List.append_assoc, List.singleton_append] at this ⊢
  exact this
theorem szF_pos (f : Fnc) : 0 < szF f := by simp [szF]
theorem szFs_sn (x : Fnc) : ∀ fs : List Fnc, szFs (fs ++ [x]) = szFs fs + szF x
  | [] => by simp [szFs]
  | f :: r => by simp [szFs, szFs_sn x r]; omega
theorem lk_fns (x : Fnc) : ∀ (fs : List Fnc) (a : List Nd) (b : Nat), fs ≠ [] → setNx (a ++ flFs b fs ++ flF (b + szFs fs) (-1) x) (a.length + szFs fs - 1) (rtF (b + szFs fs) x) = a ++ flFs b (fs ++ [x])
  | [], _, _, h => absurd rfl h
  | [f], a, b, _ => by
    have := setNx_rootF a b (-1) (rtF (b + szF f) x) f (flF (b + szF f) (-1) x)
    simp only [flFs, hdF, szFs, Nat.add_zero, List.append_nil, List.cons_append, List.nil_append] at this ⊢
    rw [this, List.append_assoc]
  | f :: g :: r, a, b, _ => by
    have ih := lk_fns x (g :: r) (a ++ flF b (hdF (b + szF f) (g :: r)) f) (b + szF f) (by simp)
    rw [List.length_append, flF_len] at ih
    have e1 : flFs b (f :: g :: r) = flF b (hdF (b + szF f) (g :: r)) f ++ flFs (b + szF f) (g :: r) := rfl
    have e2 : flFs b (f :: g :: r ++ [x]) = flF b (hdF (b + szF f) (g :: r)) f ++ flFs (b + szF f) (g :: r ++ [x]) := rfl
    have e3 : szFs (f :: g :: r) = szF f + szFs (g :: r) := rfl
    rw [e1, e2, e3, ← List.append_assoc a, ← List.append_assoc a, show a.length + (szF f + szFs (g :: r)) - 1 = a.length + szF f + szFs (g :: r) - 1 by omega, show b + (szF f + szFs (g :: r)) = b + szF f + szFs (g :: r) by omega]
    exact ih
def OkP (x : Prm) : Prop := 0 ≤ x.t ∧ x.t < 8
def OkF (f : Fnc) : Prop := (0 ≤ f.t ∧ f.t < 8) ∧ (∀ x ∈ f.ps, OkP x) ∧ OkSs 1 f.ss
theorem hdP_neg {b : Nat} {ps : List Prm} : hdP b ps < 0 ↔ ps = [] := by cases ps <;> simp [hdP]
theorem hdF_neg {b : Nat} {fs : List Fnc} : hdF b fs < 0 ↔ fs = [] := by
  cases fs with
  | nil => simp [hdF]
  | cons f r => have := szF_pos f; simp [hdF, rtF]; omega
def Gp (q : Rq) (ns : List Nd) (x : Int) (ms : List Nd) : Prop := match q with
  | .parL f la => ∀ (n0 : List Nd) gs, ns = n0 ++ flP n0.length gs → (∀ y ∈ gs, OkP y) → f = hdP n0.length gs → (gs ≠ [] → la = ((n0.length + gs.length : Nat) : Int) - 1) → ∃ gs', (∀ y ∈ gs', OkP y) ∧ ms = n0 ++ flP n0.length gs' ∧ x = hdP n0.length gs'
  | .fn => ∃ f, OkF f ∧ ms = ns ++ flF ns.length (-1) f ∧ x = rtF ns.length f
  | .prog f la => ∀ (n0 : List Nd) gs, ns = n0 ++ flFs n0.length gs → (∀ y ∈ gs, OkF y) → f = hdF n0.length gs → (gs ≠ [] → la = ((n0.length + szFs gs : Nat) : Int) - 1) → ∃ gs', (∀ y ∈ gs', OkF y) ∧ ms = n0 ++ flFs n0.length gs' ∧ x = hdF n0.length gs'
  | _ => True
theorem treeP {T : List Tok} (hv : ∀ i, kd T i = 2 → 0 ≤ (tk T i).val) : ∀ (n : Nat) (q : Rq) (i : Nat) (ns : List Nd) (x : Int) (j : Nat) (ms : List Nd), run T n (body T q i ns) = .ok x j ms → Gp q ns x ms := by
  intro n
  induction n using Nat.strongRecOn with
  | _ n ih =>
  intro q i ns x j ms h
  cases q with
  | parL f la =>
    intro n0 gs hns ho hf hla
    simp only [body] at h
    split at h
    · obtain ⟨rfl, _, rfl⟩ := run_fin h
      exact ⟨gs, ho, hns, hf⟩
    · have key : ∀ i2, run T n (wnt T 1 i2 fun j2 => typ T j2 fun t j3 => put ⟨1, -1, -1, -1, -1, t, ps T i2, (tk T i2).text⟩ j3 ns fun x j4 ms => lnk ms f la x fun f ms => .call (.parL f x) j4 ms fin) = .ok x j ms → ∃ gs', (∀ y ∈ gs', OkP y) ∧ ms = n0 ++ flP n0.length gs' ∧ x = hdP n0.length gs' := fun i2 h => by
        obtain ⟨t, i3, ht, h⟩ := run_typ (run_wnt h).2
        have hk := run_put h
        have hlen : ns.length = n0.length + gs.length := by rw [hns]; simp [flP_len]
        by_cases hn : gs = []
        · subst hn
          have hf0 : f < 0 := by rw [hf]; simp [hdP]
          unfold lnk at hk
          rw [if_pos hf0] at hk
          obtain ⟨m2, y2, j2, ms2, rfl, hb2, hk3⟩ := run_call hk
          obtain ⟨rfl, _, rfl⟩ := run_fin hk3
          have en : ns = n0 := by rw [hns]; simp [flP]
          subst en
          refine ih m2 (by omega) (.parL _ _) _ _ _ _ _ hb2 ns [⟨(tk T i2).text, ps T i2, t⟩] ?_ ?_ ?_ ?_
          · simp [flP]
          · simpa [OkP] using ht
          · simp [hdP]
          · intro _; simp
        · have hf0 : ¬ f < 0 := by rw [hf, hdP_neg]; exact hn
          unfold lnk at hk
          rw [if_neg hf0] at hk
          obtain ⟨m2, y2, j2, ms2, rfl, hb2, hk3⟩ := run_call hk
          obtain ⟨rfl, _, rfl⟩ := run_fin hk3
          have hpos : 0 < gs.length := by cases gs with
            | nil => exact absurd rfl hn
            | cons e es => simp
          have el : la.toNat = n0.length + gs.length - 1 := by rw [hla hn]; omega
          refine ih m2 (by omega) (.parL _ _) _ _ _ _ _ hb2 n0 (gs ++ [⟨(tk T i2).text, ps T i2, t⟩]) ?_ ?_ ?_ ?_
          · rw [el, hlen]
            have := lk_prm ⟨(tk T i2).text, ps T i2, t⟩ gs n0 n0.length hn
            rw [← this, hns]
          · intro y hy
            rcases List.mem_append.1 hy with h1 | h1
            · exact ho y h1
            · simp at h1; subst h1; exact ht
          · rw [hf]
            cases gs with
            | nil => exact absurd rfl hn
            | cons e es => rfl
          · intro _; simp; omega
      unfold com at h
      split at h
      · exact key _ (run_wnt h).2
      · exact key _ h
  | fn =>
    simp only [body] at h
    have h1 := (run_wnt (run_wnt (run_wnt h).2).2).2
    obtain ⟨m, y, j', ms', rfl, hb, hk⟩ := run_call h1
    obtain ⟨gs, o1, rfl, rfl⟩ := ih m (by omega) (.parL (-1) (-1)) _ ns _ _ _ hb ns [] (by simp [flP]) (by simp) rfl (fun h => absurd rfl h)
    obtain ⟨t, i2, ht, hk⟩ := run_typ (run_wnt hk).2
    obtain ⟨m2, y2, j2, ms2, rfl, hb2, hk2⟩ := run_call hk
    obtain ⟨bp, ss, _, ob, rfl, rfl⟩ := treeS hv _ _ _ _ _ _ _ hb2
    obtain ⟨rfl, _, rfl⟩ := run_fin (run_put hk2)
    refine ⟨⟨(tk T (stp T i)).text, ps T (stp T i), t, gs, bp, ss⟩, ⟨ht, o1, ob⟩, ?_, ?_⟩
    · simp only [flF, List.length_append, flP_len, List.append_assoc]
    · simp only [rtF, szF, List.length_append, flP_len, flB_len]; omega
  | prog f la =>
    intro n0 gs hns ho hf hla
    simp only [body] at h
    split at h
    · obtain ⟨rfl, _, rfl⟩ := run_fin h
      exact ⟨gs, ho, hns, hf⟩
    · obtain ⟨m, y, j', ms', rfl, hb, hk⟩ := run_call h
      obtain ⟨e1, o1, rfl, rfl⟩ := ih m (by omega) .fn i ns _ _ _ hb
      have hlen : ns.length = n0.length + szFs gs := by rw [hns]; simp [flFs_len]
      by_cases hn : gs = []
      · subst hn
        have hf0 : f < 0 := by rw [hf]; simp [hdF]
        unfold lnk at hk
        rw [if_pos hf0] at hk
        obtain ⟨m2, y2, j2, ms2, rfl, hb2, hk3⟩ := run_call hk
        obtain ⟨rfl, _, rfl⟩ := run_fin hk3
        have en : ns = n0 := by rw [hns]; simp [flFs]
        subst en
        refine ih m2 (by omega) (.prog _ _) _ _ _ _ _ hb2 ns [e1] ?_ ?_ ?_ ?_
        · simp [flFs, hdF]
        · simpa using o1
        · simp [hdF]
        · intro _; simp [rtF, szFs]
      · have hf0 : ¬ f < 0 := by rw [hf, hdF_neg]; exact hn
        unfold lnk at hk
        rw [if_neg hf0] at hk
        obtain ⟨m2, y2, j2, ms2, rfl, hb2, hk3⟩ := run_call hk
        obtain ⟨rfl, _, rfl⟩ := run_fin hk3
        have hpos : 0 < szFs gs := by cases gs with
          | nil => exact absurd rfl hn
          | cons e es => have := szF_pos e; simp [szFs]; omega
        have el : la.toNat = n0.length + szFs gs - 1 := by rw [hla hn]; omega
        refine ih m2 (by omega) (.prog _ _) _ _ _ _ _ hb2 n0 (gs ++ [e1]) ?_ ?_ ?_ ?_
        · rw [el, hlen]
          have := lk_fns e1 gs n0 n0.length hn
          rw [← this, hns]
        · intro y hy
          rcases List.mem_append.1 hy with h1 | h1
          · exact ho y h1
          · simp at h1; subst h1; exact o1
        · rw [hf]
          cases gs with
          | nil => exact absurd rfl hn
          | cons e es => rfl
        · intro _
          rw [szFs_sn]
          unfold rtF
          rw [hlen]
          omega
  | _ => trivial
/-- What the grammar reads is a program's tree. -/
theorem prog_tree {T : List Tok} (hv : ∀ i, kd T i = 2 → 0 ≤ (tk T i).val) {x : Int} {j : Nat} {ms : List Nd} (h : EvM T (body T (.prog (-1) (-1)) 0 []) (.ok x j ms)) : ∃ fs, (∀ f ∈ fs, OkF f) ∧ ms = flFs 0 fs ∧ x = hdF 0 fs := by
  obtain ⟨N, h⟩ := h
  obtain ⟨fs, h1, h2, h3⟩ := treeP hv N _ _ _ _ _ _ (h N (Nat.le_refl _)) [] [] (by simp [flFs]) (by simp) rfl (fun h => absurd rfl h)
  exact ⟨fs, h1, by simpa using h2, by simpa using h3⟩
end Go.Proofs.Qxb6500277aGreat
