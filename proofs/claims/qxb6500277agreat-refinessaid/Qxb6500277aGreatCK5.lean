/- The checker's plain side: runs of arguments. -/
import Derived.Test.Qxb6500277aGreatCK4
namespace Go.Proofs.Qxb6500277aGreat
open Go Go.RowKit

theorem oddA_snoc (t p : Int) : ∀ (ts : List (Int × Int)) (us : List Int), oddA (ts ++ [(t, p)]) us = match oddA ts us with | some q => some q | none => if ts.length < us.length ∧ t ≠ us.getD ts.length 0 then some p else none
  | [], [] => by simp [oddA]
  | [], u :: us => by
    simp only [List.nil_append, oddA]
    by_cases h : t = u
    · simp [h]
    · simp [h]
  | (t', p') :: ts, [] => by simp [oddA]
  | (t', p') :: ts, u :: us => by
    simp only [List.cons_append, oddA]
    by_cases h : t' = u
    · rw [if_pos h, if_pos h, oddA_snoc t p ts us]
      cases oddA ts us with
      | some q => rfl
      | none => simp
    · rw [if_neg h, if_neg h]
theorem Rc.bind_assoc {α β γ : Type} (r : Rc α) (k : α → Ck → Rc β) (m : β → Ck → Rc γ) : (r.bind k).bind m = r.bind fun a s => (k a s).bind m := by cases r <;> rfl
theorem ckEs_start (X : Cx) (b : Nat) (gs : Exps) (s : Ck) : ckEs X b gs s = (ckEs X b gs s).bind fun ts s => .ok ([] ++ ts) s := by
  cases ckEs X b gs s <;> rfl
theorem ckEs_step {X : Cx} {b : Nat} {e : Exp} {es : Exps} {s : Ck} {ts : List (Int × Int)} {r : Rc (List (Int × Int))} (h : r = (ckEs X b (.cons e es) s).bind fun us s => .ok (ts ++ us) s) :
    (∀ er po, ckE X b e s = .bad er po → r = .bad er po) ∧ (∀ t s', ckE X b e s = .ok t s' → r = (ckEs X (b + szE e) es s').bind fun us s => .ok ((ts ++ [(t, poE e)]) ++ us) s) := by
  subst h
  refine ⟨fun er po h => ?_, fun t s' h => ?_⟩
  · simp only [ckEs, h, Rc.bind_bad]
  · simp only [ckEs, h, Rc.bind_ok]
    rw [Rc.bind_assoc]
    cases ckEs X (b + szE e) es s' with
    | bad => rfl
    | ok => simp [Rc.bind_ok]
theorem ckEs_end {X : Cx} {b : Nat} {s : Ck} {ts : List (Int × Int)} {r : Rc (List (Int × Int))} (h : r = (ckEs X b .nil s).bind fun us s => .ok (ts ++ us) s) : r = .ok ts s := by
  subst h
  simp [ckEs, Rc.bind_ok]
theorem Lie.prm {ns : List Nd} {b : Nat} {x : Prm} {r : List Prm} (h : Lie ns b (flP b (x :: r))) : ns[b]? = some ⟨1, -1, -1, -1, hdP (b + 1) r, x.t, x.p, x.s⟩ ∧ Lie ns (b + 1) (flP (b + 1) r) := by
  cases r with
  | nil =>
    simp only [flP] at h
    refine ⟨h.one, ?_⟩
    have h2 := h.app (l := [_]) (m := [])
    exact h2.2
  | cons y r =>
    simp only [flP] at h
    have h2 := Lie.app (l := [_]) (m := flP (b + 1) (y :: r)) h
    exact ⟨h2.1.one, h2.2⟩
theorem Lie.fns {ns : List Nd} {b : Nat} {f : Fnc} {r : List Fnc} (h : Lie ns b (flFs b (f :: r))) : Lie ns b (flF b (hdF (b + szF f) r) f) ∧ Lie ns (b + szF f) (flFs (b + szF f) r) := by
  simp only [flFs] at h
  have h2 := h.app
  rw [flF_len] at h2
  exact h2
theorem Lie.fn {ns : List Nd} {b : Nat} {nx : Int} {f : Fnc} (h : Lie ns b (flF b nx f)) : Lie ns b (flP b f.ps) ∧ Lie ns (b + f.ps.length) (flSs (b + f.ps.length) f.ss) ∧ ns[b + f.ps.length + szSs f.ss]? = some ⟨2, hdS (b + f.ps.length) f.ss, -1, -1, -1, 0, f.bp, ⟨#[]⟩⟩ ∧
    ns[b + szF f - 1]? = some ⟨0, hdP b f.ps, ((b + f.ps.length + szSs f.ss : Nat) : Int), -1, nx, f.t, f.p, f.s⟩ := by
  unfold flF at h
  have h2 := h.app
  have h3 := h2.1.app
  rw [List.length_append, flP_len, flB_len] at h2
  rw [flP_len] at h3
  have h4 := h3.2.blk
  refine ⟨h3.1, h4.1, h4.2, ?_⟩
  have h5 := h2.2.one
  rw [show b + szF f - 1 = b + (f.ps.length + (szSs f.ss + 1)) by simp [szF]]
  exact h5
end Go.Proofs.Qxb6500277aGreat
