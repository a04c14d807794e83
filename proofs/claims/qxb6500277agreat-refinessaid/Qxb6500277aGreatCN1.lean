/- The names of a tree are short. -/
import Derived.Test.Qxb6500277aGreatPT4
namespace Go.Proofs.Qxb6500277aGreat
open Go Go.RowKit

def Nm8 (ns : List Nd) : Prop := ∀ nd ∈ ns, nd.name.size ≤ 8
def Safe : Mo → Prop
  | .ret (.bad ..) => True
  | .ret (.ok _ _ ns) => Nm8 ns
  | .call _ _ ns k => Nm8 ns ∧ ∀ x j ms, Nm8 ms → Safe (k x j ms)
section
variable {T : List Tok} {i : Nat} {ns : List Nd}
theorem safe_bad (e p : Int) : Safe (.ret (.bad e p)) := by simp [Safe]
theorem safe_fin (x : Int) (h : Nm8 ns) : Safe (fin x i ns) := by unfold fin; simpa [Safe] using h
theorem safe_call {q : Rq} {k : Int → Nat → List Nd → Mo} (h : Nm8 ns) (hk : ∀ x j ms, Nm8 ms → Safe (k x j ms)) : Safe (.call q i ns k) := by simp only [Safe]; exact ⟨h, hk⟩
theorem safe_put {nd : Nd} {k : Int → Nat → List Nd → Mo} (hn : nd.name.size ≤ 8) (h : Nm8 ns) (hk : ∀ x j ms, Nm8 ms → Safe (k x j ms)) : Safe (put nd i ns k) := by
  unfold put
  split
  · exact safe_bad _ _
  · refine hk _ _ _ fun y hy => ?_
    simp only [List.mem_append, List.mem_singleton] at hy
    rcases hy with hy | rfl
    · exact h y hy
    · exact hn
theorem safe_wnt {k : Int} {f : Nat → Mo} (h : ∀ j, Safe (f j)) : Safe (wnt T k i f) := by
  unfold wnt
  split
  · exact h _
  · exact safe_bad _ _
theorem safe_ent {d : Nat} {m : Mo} (h : Safe m) : Safe (ent T d i m) := by
  unfold ent
  split
  · exact safe_bad _ _
  · exact h
theorem safe_tyO {f : Nat → Nat → Mo} (h : ∀ l j, Safe (f l j)) : ∀ (l i : Nat), Safe (tyO T l i f)
  | 0, i => by
    unfold tyO
    split
    · exact safe_bad _ _
    · exact h _ _
  | l + 1, i => by
    unfold tyO
    split
    · exact safe_tyO h l _
    · exact h _ _
theorem safe_tyC {f : Nat → Mo} (h : ∀ j, Safe (f j)) : ∀ (l i : Nat), Safe (tyC T l i f)
  | 0, i => by unfold tyC; exact h _
  | l + 1, i => by unfold tyC; exact safe_wnt fun j => safe_tyC h l j
theorem safe_typ {f : Int → Nat → Mo} (h : ∀ t j, Safe (f t j)) : Safe (typ T i f) := by
  unfold typ
  refine safe_tyO (fun l j => ?_) _ _
  split
  · exact safe_tyC (h _) _ _
  · split
    · exact safe_tyC (h _) _ _
    · exact safe_bad _ _
theorem safe_com {first : Int} {f : Nat → Mo} (h : ∀ j, Safe (f j)) : Safe (com T first i f) := by
  unfold com
  split
  · exact safe_wnt h
  · exact h _
theorem Nm8.set (h : Nm8 ns) (k : Nat) (x : Int) : Nm8 (setNx ns k x) := by
  intro y hy
  unfold setNx at hy
  rcases List.mem_or_eq_of_mem_set hy with hy | rfl
  · exact h y hy
  · cases hk : ns[k]? with
    | none => exact Nat.zero_le _
    | some z => simpa using h z (List.mem_of_getElem? hk)
theorem safe_lnk {first last x : Int} {k : Int → List Nd → Mo} (h : Nm8 ns) (hk : ∀ x ms, Nm8 ms → Safe (k x ms)) : Safe (lnk ns first last x k) := by
  unfold lnk
  split
  · exact hk _ _ h
  · exact hk _ _ (h.set _ _)
theorem safe_ite {p : Prop} [Decidable p] {a b : Mo} (ha : Safe a) (hb : Safe b) : Safe (if p then a else b) := by split <;> assumption
theorem safe_body (ht : ∀ i, (tk T i).text.size ≤ 8) (q : Rq) (i : Nat) (ns : List Nd) (h : Nm8 ns) : Safe (body T q i ns) := by
  cases q <;> simp only [body]
  all_goals
    repeat (first
      | assumption
      | exact safe_bad _ _
      | exact fun x j ms hm => safe_fin _ hm
      | exact safe_fin _ (by assumption)
      | refine safe_call (by assumption) (fun _ _ _ _ => ?_)
      | refine safe_put (by first | exact ht _ | exact Nat.zero_le _) (by assumption) (fun _ _ _ _ => ?_)
      | refine safe_wnt (fun _ => ?_)
      | refine safe_ent ?_
      | refine safe_typ (fun _ _ => ?_)
      | refine safe_com (fun _ => ?_)
      | refine safe_lnk (by assumption) (fun _ _ _ => ?_)
      | refine safe_ite ?_ ?_)
theorem safe_run (ht : ∀ i, (tk T i).text.size ≤ 8) : ∀ (n : Nat) (m : Mo) (x : Int) (j : Nat) (ms : List Nd), Safe m → run T n m = .ok x j ms → Nm8 ms
  | 0, .ret r, x, j, ms, hs, h => by
    simp only [run] at h; subst h; simpa [Safe] using hs
  | n + 1, .ret r, x, j, ms, hs, h => by
    simp only [run] at h; subst h; simpa [Safe] using hs
  | 0, .call .., x, j, ms, hs, h => by simp [run] at h
  | n + 1, .call q i ns k, x, j, ms, hs, h => by
    simp only [Safe] at hs
    simp only [run] at h
    cases hr : run T n (body T q i ns) with
    | bad e p => rw [hr] at h; cases h
    | ok y j' ms' =>
      rw [hr] at h
      exact safe_run ht n _ _ _ _ (hs.2 _ _ _ (safe_run ht n _ _ _ _ (safe_body ht q i ns hs.1) hr)) h
theorem names8 (ht : ∀ i, (tk T i).text.size ≤ 8) {x : Int} {j : Nat} {ms : List Nd} {q : Rq} (h : EvM T (body T q 0 []) (.ok x j ms)) : Nm8 ms := by
  obtain ⟨N, h⟩ := h
  exact safe_run ht N _ _ _ _ (safe_body ht q 0 [] (fun _ h => by cases h)) (h N (Nat.le_refl _))
end
/-- Every token of a text that the lexer takes is sound. -/
theorem ansTs_sound {src : ByteArray} (h0 : ansErr src = 0) (i : Nat) : (tk (ansTs src) i).text.size ≤ 8 ∧ (kd (ansTs src) i = 2 → 0 ≤ (tk (ansTs src) i).val) := by
  have z1 : zeroTok.text.size ≤ 8 ∧ (zeroTok.kind = 2 → 0 ≤ zeroTok.val) := ⟨Nat.zero_le _, by decide⟩
  unfold kd tk ansTs
  unfold ansErr at h0
  by_cases hsz : src.size ≤ 4096
  · rw [if_pos hsz] at h0
    have h0' : (finR src 0 r0).fail = 0 := by simpa using h0
    obtain ⟨a, b'⟩ := fin_mi src.size 0 r0 (by omega) (r0_mi src) h0'
    have hf := a.fine
    rw [if_pos ⟨hsz, h0'⟩]
    by_cases hlt : i < (finR src 0 r0).toks.length
    · rw [List.getElem?_append_left hlt, List.getElem?_eq_getElem hlt, Option.getD_some]
      obtain ⟨s, hk, _⟩ := hf i hlt
      refine ⟨?_, fun e => (s.num e).1⟩
      by_cases h1 : ((finR src 0 r0).toks[i]).kind = 1
      · exact (s.id h1).2.2.1
      · by_cases h2 : ((finR src 0 r0).toks[i]).kind = 2
        · rw [(s.num h2).2]; exact Nat.zero_le _
        · rw [(s.oth h1 h2).2]; exact Nat.zero_le _
    · by_cases he : i = (finR src 0 r0).toks.length
      · subst he
        rw [List.getElem?_append_right (Nat.le_refl _)]
        simp [eofT]
        exact Nat.zero_le _
      · rw [List.getElem?_eq_none (by simp; omega)]
        exact z1
  · rw [if_neg (fun h => hsz h.1)]
    simpa using z1
end Go.Proofs.Qxb6500277aGreat
