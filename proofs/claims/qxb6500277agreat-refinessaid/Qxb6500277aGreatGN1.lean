/- Numbers of a text that the lexer takes are in range. -/
import Derived.Test.Qxb6500277aGreatCN1
import Derived.Test.Qxb6500277aGreatGP16
import Derived.Test.Qxb6500277aGreatCB4
namespace Go.Proofs.Qxb6500277aGreat
open Go Go.RowKit

/-- A number is in range. -/
def TW (t : Tok) : Prop := t.kind = 2 → t.val ≤ 9223372036854775807
theorem TW.sign (k : Nat) (p : Int) (h : 3 ≤ k) : TW ⟨k, p, 0, ⟨#[]⟩⟩ := fun e => absurd (show (k : Int) = 2 from e) (by omega)
def MW (r : R) : Prop := ∀ t ∈ r.toks, TW t
theorem TW.snoc {ts : List Tok} {t : Tok} (h : ∀ t ∈ ts, TW t) (ht : TW t) : ∀ x ∈ ts ++ [t], TW x := fun x hx => by
  rcases List.mem_append.1 hx with h1 | h1
  · exact h x h1
  · simp at h1; subst h1; exact ht
theorem feed_mw {src : ByteArray} {i k : Nat} {r : R} (hm : MI src i r) (h : MW r) (c : Nat) : MW (feedR src i c k r).1 := by
  have hval := hm.val
  unfold feedR
  split
  · split
    · split
      · exact h
      · exact h
    · refine TW.snoc h ?_
      unfold wordT
      split
      · rename_i hq
        rcases guess_in (src.extract r.start i).size r.first with e | ⟨e1, e2⟩
        · exact absurd e hq.1
        · exact TW.sign _ _ e1
      · exact fun e => by simp at e
  · split
    · split
      · split
        · exact h
        · exact h
      · refine TW.snoc h fun _ => ?_
        simp only []
        omega
    · split
      · split
        · exact h
        · exact h
      · split
        · split
          · rename_i ht
            rcases twin_in r.first c with e | ⟨e1, e2, e3⟩
            · exact absurd e ht
            exact TW.snoc h (TW.sign _ _ (by omega))
          · split
            · exact h
            · rename_i hg
              rcases single_in r.first with e | ⟨e1, e2, e3⟩
              · exact absurd e hg
              exact TW.snoc h (TW.sign _ _ (by omega))
        · exact h
theorem begin_mw {src : ByteArray} {i : Nat} {r : R} (h : MW r) : MW (beginR i (bt src i) (classN (bt src i)) r) := by
  unfold beginR
  split
  · exact h
  · split
    · exact h
    · split
      · exact h
      · split
        · exact h
        · split
          · rename_i hk
            rcases single_in (bt src i) with e | ⟨e1, e2, e3⟩
            · exact absurd e (sign_ne _ hk)
            exact TW.snoc h (TW.sign _ _ (by omega))
          · split
            · exact h
            · exact h
theorem step_mw {src : ByteArray} {i : Nat} {r : R} (hm : MI src i r) (h : MW r) : MW (stepR src i r) := by
  have h1 := feed_mw (k := classN (bt src i)) hm h (bt src i)
  unfold stepR
  simp only []
  split
  · exact h1
  · exact begin_mw h1
theorem fin_mw {src : ByteArray} : ∀ (n i : Nat) (r : R), i + n = src.size → MI src i r → MW r → MW (finR src i r)
  | n, i, r, hn, hm, hw => by
    by_cases h0 : r.fail = 0
    · match n with
      | 0 =>
        have e : i = src.size := by omega
        subst e
        rw [fin_end h0]
        exact feed_mw hm hw 0
      | n + 1 =>
        rw [fin_step (by omega) h0]
        exact fin_mw n (i + 1) _ (by omega) (step_mi hm h0 (by omega)) (step_mw hm hw)
    · rw [fin_fail h0]; exact hw
theorem r0_mw : MW r0 := fun t h => by simp [r0] at h
theorem ansTs_w {src : ByteArray} (h0 : ansErr src = 0) (i : Nat) : kd (ansTs src) i = 2 → 0 ≤ (tk (ansTs src) i).val ∧ (tk (ansTs src) i).val ≤ 9223372036854775807 := by
  have z : zeroTok.kind = 2 → 0 ≤ zeroTok.val ∧ zeroTok.val ≤ 9223372036854775807 := fun e => absurd e (by decide)
  unfold kd tk ansTs
  unfold ansErr at h0
  by_cases hsz : src.size ≤ 4096
  · rw [if_pos hsz] at h0
    have h0' : (finR src 0 r0).fail = 0 := by simpa using h0
    obtain ⟨a, b'⟩ := fin_mi src.size 0 r0 (by omega) (r0_mi src) h0'
    have hw := fin_mw src.size 0 r0 (by omega) (r0_mi src) r0_mw
    have hf := a.fine
    rw [if_pos ⟨hsz, h0'⟩]
    by_cases hlt : i < (finR src 0 r0).toks.length
    · rw [List.getElem?_append_left hlt, List.getElem?_eq_getElem hlt, Option.getD_some]
      obtain ⟨s, hk, _⟩ := hf i hlt
      exact fun e => ⟨(s.num e).1, hw _ (List.getElem_mem hlt) e⟩
    · by_cases he : i = (finR src 0 r0).toks.length
      · subst he
        rw [List.getElem?_append_right (Nat.le_refl _)]
        simp [eofT]
      · rw [List.getElem?_eq_none (by simp; omega)]
        exact z
  · rw [if_neg (fun h => hsz h.1)]
    simpa using z
/-- What each node of a read text is. -/
def NW (nd : Nd) : Prop := (nd.kind = 10 → 0 ≤ nd.val ∧ nd.val ≤ 9223372036854775807) ∧ (nd.kind = 11 → nd.val = 0 ∨ nd.val = 1)
def NsW (ns : List Nd) : Prop := (∀ nd ∈ ns, NW nd) ∧ ns.length ≤ 200
def SafeW : Mo → Prop
  | .ret (.bad ..) => True
  | .ret (.ok _ _ ns) => NsW ns
  | .call _ _ ns k => NsW ns ∧ ∀ x j ms, NsW ms → SafeW (k x j ms)
section
variable {T : List Tok} {i : Nat} {ns : List Nd}
theorem sw_bad (e p : Int) : SafeW (.ret (.bad e p)) := by simp [SafeW]
theorem sw_fin (x : Int) (h : NsW ns) : SafeW (fin x i ns) := by unfold fin; simpa [SafeW] using h
theorem sw_call {q : Rq} {k : Int → Nat → List Nd → Mo} (h : NsW ns) (hk : ∀ x j ms, NsW ms → SafeW (k x j ms)) : SafeW (.call q i ns k) := by simp only [SafeW]; exact ⟨h, hk⟩
theorem sw_put {nd : Nd} {k : Int → Nat → List Nd → Mo} (hn : NW nd) (h : NsW ns) (hk : ∀ x j ms, NsW ms → SafeW (k x j ms)) : SafeW (put nd i ns k) := by
  unfold put
  split
  · exact sw_bad _ _
  · refine hk _ _ _ ⟨fun y hy => ?_, by simp; omega⟩
    simp only [List.mem_append, List.mem_singleton] at hy
    rcases hy with hy | rfl
    · exact h.1 y hy
    · exact hn
theorem sw_wnt {k : Int} {f : Nat → Mo} (h : kd T i = k → ∀ j, SafeW (f j)) : SafeW (wnt T k i f) := by
  unfold wnt
  split
  · exact h (by assumption) _
  · exact sw_bad _ _
theorem sw_ent {d : Nat} {m : Mo} (h : SafeW m) : SafeW (ent T d i m) := by
  unfold ent
  split
  · exact sw_bad _ _
  · exact h
theorem sw_tyO {f : Nat → Nat → Mo} (h : ∀ l j, SafeW (f l j)) : ∀ (l i : Nat), SafeW (tyO T l i f)
  | 0, i => by
    unfold tyO
    split
    · exact sw_bad _ _
    · exact h _ _
  | l + 1, i => by
    unfold tyO
    split
    · exact sw_tyO h l _
    · exact h _ _
theorem sw_tyC {f : Nat → Mo} (h : ∀ j, SafeW (f j)) : ∀ (l i : Nat), SafeW (tyC T l i f)
  | 0, i => by unfold tyC; exact h _
  | l + 1, i => by unfold tyC; exact sw_wnt fun _ j => sw_tyC h l j
theorem sw_typ {f : Int → Nat → Mo} (h : ∀ t j, SafeW (f t j)) : SafeW (typ T i f) := by
  unfold typ
  refine sw_tyO (fun l j => ?_) _ _
  split
  · exact sw_tyC (h _) _ _
  · split
    · exact sw_tyC (h _) _ _
    · exact sw_bad _ _
theorem sw_com {first : Int} {f : Nat → Mo} (h : ∀ j, SafeW (f j)) : SafeW (com T first i f) := by
  unfold com
  split
  · exact sw_wnt fun _ => h
  · exact h _
theorem NsW.set (h : NsW ns) (k : Nat) (x : Int) : NsW (setNx ns k x) := by
  have hl : (setNx ns k x).length = ns.length := by unfold setNx; simp
  refine ⟨fun y hy => ?_, by rw [hl]; exact h.2⟩
  unfold setNx at hy
  by_cases hk : k < ns.length
  · rcases List.mem_or_eq_of_mem_set hy with hy | rfl
    · exact h.1 y hy
    · have := h.1 _ (List.getElem_mem hk)
      simpa [List.getElem?_eq_getElem hk, NW] using this
  · rw [List.set_eq_of_length_le (by omega)] at hy
    exact h.1 y hy
theorem sw_lnk {first last x : Int} {k : Int → List Nd → Mo} (h : NsW ns) (hk : ∀ x ms, NsW ms → SafeW (k x ms)) : SafeW (lnk ns first last x k) := by
  unfold lnk
  split
  · exact hk _ _ h
  · exact hk _ _ (h.set _ _)
theorem sw_ite {p : Prop} [Decidable p] {a b : Mo} (ha : p → SafeW a) (hb : SafeW b) : SafeW (if p then a else b) := by
  split
  · exact ha (by assumption)
  · exact hb
theorem sw_body (ht : ∀ i, kd T i = 2 → 0 ≤ (tk T i).val ∧ (tk T i).val ≤ 9223372036854775807) (q : Rq) (i : Nat) (ns : List Nd) (h : NsW ns) : SafeW (body T q i ns) := by
  cases q <;> simp only [body]
  all_goals
    repeat (first
      | assumption
      | exact sw_bad _ _
      | exact fun x j ms hm => sw_fin _ hm
      | exact sw_fin _ (by assumption)
      | refine sw_call (by assumption) (fun _ _ _ _ => ?_)
      | refine sw_put (by first | exact ⟨fun _ => ht _ (by assumption), fun e => absurd e (by simp [fre])⟩ | exact ⟨fun e => absurd e (by simp [fre]), fun _ => .inl rfl⟩ | exact ⟨fun e => absurd e (by simp [fre]), fun _ => .inr rfl⟩ | exact ⟨fun e => absurd e (by simp [fre]), fun e => absurd e (by simp [fre])⟩) (by assumption) (fun _ _ _ _ => ?_)
      | refine sw_wnt (fun _ _ => ?_)
      | refine sw_ent ?_
      | refine sw_typ (fun _ _ => ?_)
      | refine sw_com (fun _ => ?_)
      | refine sw_lnk (by assumption) (fun _ _ _ => ?_)
      | refine sw_ite (fun _ => ?_) ?_)
theorem sw_run (ht : ∀ i, kd T i = 2 → 0 ≤ (tk T i).val ∧ (tk T i).val ≤ 9223372036854775807) : ∀ (n : Nat) (m : Mo) (x : Int) (j : Nat) (ms : List Nd), SafeW m → run T n m = .ok x j ms → NsW ms
  | 0, .ret r, x, j, ms, hs, h => by
    simp only [run] at h; subst h; simpa [SafeW] using hs
  | n + 1, .ret r, x, j, ms, hs, h => by
    simp only [run] at h; subst h; simpa [SafeW] using hs
  | 0, .call .., x, j, ms, hs, h => by simp [run] at h
  | n + 1, .call q i ns k, x, j, ms, hs, h => by
    simp only [SafeW] at hs
    simp only [run] at h
    cases hr : run T n (body T q i ns) with
    | bad e p => rw [hr] at h; cases h
    | ok y j' ms' =>
      rw [hr] at h
      exact sw_run ht n _ _ _ _ (hs.2 _ _ _ (sw_run ht n _ _ _ _ (sw_body ht q i ns hs.1) hr)) h
theorem nodesW (ht : ∀ i, kd T i = 2 → 0 ≤ (tk T i).val ∧ (tk T i).val ≤ 9223372036854775807) {x : Int} {j : Nat} {ms : List Nd} {q : Rq} (h : EvM T (body T q 0 []) (.ok x j ms)) : NsW ms := by
  obtain ⟨N, h⟩ := h
  exact sw_run ht N _ _ _ _ (sw_body ht q 0 [] ⟨fun _ h => (by cases h), by simp⟩) (h N (Nat.le_refl _))
end
end Go.Proofs.Qxb6500277aGreat
