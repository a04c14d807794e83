/- The compiled program of a core tree. -/
import Derived.Test.Qxb6500283aGreatPL4
import Derived.Test.Qxb6500283aGreatPL6
import Derived.Test.Qxb6500283aGreatT9
import Derived.Test.Qxb6500283aGreatW10
import Derived.Test.Qxb6500283aGreatY1
namespace Go.Proofs.Qxb6500283aGreat
open Go Go.RowKit

theorem IsT.det {ns : List Nd} {k : Nat} {r : Rx} (h : IsT ns k r) : ∀ r', IsT ns k r' → r = r' := by
  have inj : ∀ {n : Int} {a b : Nat}, n = (a : Nat) → n = (b : Nat) → a = b := fun h1 h2 => by omega
  induction h with
  | emp h e => intro r' h'; cases h' with
    | emp => rfl
    | set h' e' => rw [h] at h'; cases h'; omega
    | bol h' e' => rw [h] at h'; cases h'; omega
    | eol h' e' => rw [h] at h'; cases h'; omega
    | cat h' e' => rw [h] at h'; cases h'; omega
    | alt h' e' => rw [h] at h'; cases h'; omega
    | rep h' e' => rw [h] at h'; cases h'; omega
    | grp h' e' => rw [h] at h'; cases h'; omega
  | set h e => intro r' h'; cases h' with
    | set h' e' => rw [h] at h'; cases h'; rfl
    | emp h' e' => rw [h] at h'; cases h'; omega
    | bol h' e' => rw [h] at h'; cases h'; omega
    | eol h' e' => rw [h] at h'; cases h'; omega
    | cat h' e' => rw [h] at h'; cases h'; omega
    | alt h' e' => rw [h] at h'; cases h'; omega
    | rep h' e' => rw [h] at h'; cases h'; omega
    | grp h' e' => rw [h] at h'; cases h'; omega
  | bol h e => intro r' h'; cases h' with
    | bol => rfl
    | emp h' e' => rw [h] at h'; cases h'; omega
    | set h' e' => rw [h] at h'; cases h'; omega
    | eol h' e' => rw [h] at h'; cases h'; omega
    | cat h' e' => rw [h] at h'; cases h'; omega
    | alt h' e' => rw [h] at h'; cases h'; omega
    | rep h' e' => rw [h] at h'; cases h'; omega
    | grp h' e' => rw [h] at h'; cases h'; omega
  | eol h e => intro r' h'; cases h' with
    | eol => rfl
    | emp h' e' => rw [h] at h'; cases h'; omega
    | set h' e' => rw [h] at h'; cases h'; omega
    | bol h' e' => rw [h] at h'; cases h'; omega
    | cat h' e' => rw [h] at h'; cases h'; omega
    | alt h' e' => rw [h] at h'; cases h'; omega
    | rep h' e' => rw [h] at h'; cases h'; omega
    | grp h' e' => rw [h] at h'; cases h'; omega
  | cat h e e1 e2 _ _ _ _ ih1 ih2 => intro r' h'; cases h' with
    | cat h' e' e1' e2' _ _ t1 t2 =>
      rw [h] at h'; cases h'
      obtain rfl := inj e1 e1'
      obtain rfl := inj e2 e2'
      rw [ih1 _ t1, ih2 _ t2]
    | emp h' e' => rw [h] at h'; cases h'; omega
    | set h' e' => rw [h] at h'; cases h'; omega
    | bol h' e' => rw [h] at h'; cases h'; omega
    | eol h' e' => rw [h] at h'; cases h'; omega
    | alt h' e' => rw [h] at h'; cases h'; omega
    | rep h' e' => rw [h] at h'; cases h'; omega
    | grp h' e' => rw [h] at h'; cases h'; omega
  | alt h e e1 e2 _ _ _ _ ih1 ih2 => intro r' h'; cases h' with
    | alt h' e' e1' e2' _ _ t1 t2 =>
      rw [h] at h'; cases h'
      obtain rfl := inj e1 e1'
      obtain rfl := inj e2 e2'
      rw [ih1 _ t1, ih2 _ t2]
    | emp h' e' => rw [h] at h'; cases h'; omega
    | set h' e' => rw [h] at h'; cases h'; omega
    | bol h' e' => rw [h] at h'; cases h'; omega
    | eol h' e' => rw [h] at h'; cases h'; omega
    | cat h' e' => rw [h] at h'; cases h'; omega
    | rep h' e' => rw [h] at h'; cases h'; omega
    | grp h' e' => rw [h] at h'; cases h'; omega
  | rep h e e1 e2 _ _ ih1 => intro r' h'; cases h' with
    | rep h' e' e1' e2' _ t1 =>
      rw [h] at h'; cases h'
      obtain rfl := inj e1 e1'
      obtain rfl := inj e2 e2'
      rw [ih1 _ t1]
    | emp h' e' => rw [h] at h'; cases h'; omega
    | set h' e' => rw [h] at h'; cases h'; omega
    | bol h' e' => rw [h] at h'; cases h'; omega
    | eol h' e' => rw [h] at h'; cases h'; omega
    | cat h' e' => rw [h] at h'; cases h'; omega
    | alt h' e' => rw [h] at h'; cases h'; omega
    | grp h' e' => rw [h] at h'; cases h'; omega
  | grp h e e1 e2 _ _ ih1 => intro r' h'; cases h' with
    | grp h' e' e1' e2' _ t1 =>
      rw [h] at h'; cases h'
      obtain rfl := inj e1 e1'
      obtain rfl := inj e2 e2'
      rw [ih1 _ t1]
    | emp h' e' => rw [h] at h'; cases h'; omega
    | set h' e' => rw [h] at h'; cases h'; omega
    | bol h' e' => rw [h] at h'; cases h'; omega
    | eol h' e' => rw [h] at h'; cases h'; omega
    | cat h' e' => rw [h] at h'; cases h'; omega
    | alt h' e' => rw [h] at h'; cases h'; omega
    | rep h' e' => rw [h] at h'; cases h'; omega
/-- The trees that wait. -/
inductive Trs (ns : List Nd) : List Nat → Nat → Prop
  | nil : Trs ns [] 0
  | cons {a m : Nat} {S : List Nat} {r : Rx} : IsT ns a r → RxK r → Trs ns S m → Trs ns (a :: S) (m + sizeR r)
theorem Chk.trs {ns : List Nd} {N g i : Nat} {S : List Nat} (hg : g ≤ 3) (h : Chk ns N g i S) : Trs ns S i := by
  induction h with
  | nil => exact .nil
  | @step i S S' hc0 hc ih =>
    have hlt := hc0.wf.1
    cases hc with
    | leaf h1 h2 =>
      rcases h2 with rfl | rfl | rfl
      · exact .cons (r := .emp) (.emp h1 rfl) trivial ih
      · exact .cons (r := .bol) (.bol h1 rfl) trivial ih
      · exact .cons (r := .eol) (.eol h1 rfl) trivial ih
    | set h1 _ => exact .cons (.set h1 rfl) trivial ih
    | @cat S A B _ _ h1 _ _ _ _ =>
      have ha := hlt A (List.mem_cons_of_mem _ (List.mem_cons_self ..))
      have hb := hlt B (List.mem_cons_self ..)
      cases ih with
      | @cons _ m _ b t2 k2 ih => cases ih with
        | @cons _ m _ a t1 k1 ih =>
          rw [show m + sizeR a + sizeR b + 1 = m + sizeR (.cat a b) by simp only [sizeR]; omega]
          exact .cons (.cat h1 rfl rfl rfl ha hb t1 t2) ⟨k1, k2⟩ ih
    | @alt S A B h1 =>
      have ha := hlt A (List.mem_cons_of_mem _ (List.mem_cons_self ..))
      have hb := hlt B (List.mem_cons_self ..)
      cases ih with
      | @cons _ m _ b t2 k2 ih => cases ih with
        | @cons _ m _ a t1 k1 ih =>
          rw [show m + sizeR a + sizeR b + 1 = m + sizeR (.alt a b) by simp only [sizeR]; omega]
          exact .cons (.alt h1 rfl rfl rfl ha hb t1 t2) ⟨k1, k2⟩ ih
    | @grp S A c h1 h2 h3 =>
      have ha := hlt A (List.mem_cons_self ..)
      cases ih with
      | @cons _ m _ a t1 k1 ih => exact .cons (r := .grp a c) (.grp h1 rfl rfl rfl ha t1) ⟨k1, h2, by omega⟩ ih
    | @rep S A lz h1 h2 =>
      have ha := hlt A (List.mem_cons_self ..)
      cases ih with
      | @cons _ m _ a t1 k1 ih => exact .cons (r := .rep a 0 (-1) lz) (.rep (m := 0) h1 rfl rfl rfl ha t1) ⟨k1, rfl, rfl⟩ ih
theorem ModelL.good {p : ByteArray} {ns : List Nd} {y g : Nat} (h : ModelL p (.ok (ns, y, g))) : ∃ r, IsT ns y r ∧ RxW r ∧ IsT (coreL ns y) ((coreL ns y).length - 1) (chR (sh r) (co r)) ∧ RxC (chR (sh r) (co r)) ∧ ∀ s : ByteArray, EqF s.size (wy s r) (wy s (chR (sh r) (co r))) := by
  obtain ⟨hT, hg⟩ := h.tree
  have hy : y < ns.length := by have := hT.root; omega
  have hF : ((∀ n ∈ ns, FormNd g n) ∧ LoopOk ns) ∧ GT ns 0 y := by
    rcases h with ⟨_, h⟩ | ⟨_, h⟩
    · cases h
    · exact ⟨h.form, h.gt⟩
  obtain ⟨r, hr, hB⟩ := isT_any hT.wf hT.rb hT.cb y hy
  have hO := hr.ok hF.1.1 hF.1.2
  obtain ⟨hz, hR⟩ := core_tree hT.wf hT.rb hr hB
  have hI := RunT.chd (z := zz ns y) hR []
  refine ⟨r, hr, hr.w hT.rb hg hO, ?_, (RxC.co r hB hO (hr.g hF.2)).1, fun s => (kept s r hB).ch⟩
  rw [hz] at hI
  simpa [coreL] using hI
def mIn : In := opIn 6 0 0
/-- The program that a core tree is compiled into. -/
structure CompP (cl : List Nd) (code : List In) : Prop where
  run : ∃ k seg, k ≤ 93 ∧ RunC' cl k ([], [⟨0, cl.length - 1, 0⟩]) (seg, []) ∧ code = seg ++ [mIn]
  ok : OkProg code
theorem compiled {p : ByteArray} {ns : List Nd} {y g : Nat} (h : ModelL p (.ok (ns, y, g))) (hz : (zz ns y).2 ≤ 31) :
    ∃ code r, CompP (coreL ns y) code ∧ IsT ns y r ∧ RxW r ∧ ∀ (s : ByteArray) (m a : Nat), a + m ≤ s.size + 1 → runFrom code s m a = leftG (wy s r) m a := by
  obtain ⟨hT, hg⟩ := h.tree
  obtain ⟨l1, l31⟩ := coreL_len hT hz
  obtain ⟨r, hr, hW, hI, hC, hE⟩ := h.good
  have hk := (keepOk h).chk.trs hg
  have hk2 : RxK (chR (sh r) (co r)) ∧ sizeR (chR (sh r) (co r)) = (coreL ns y).length := by
    generalize hL : (coreL ns y).length = L at hk hI
    cases hk with
    | @cons _ m _ r2 t k hn =>
      cases hn
      rw [hI.det _ t]
      exact ⟨k, by omega⟩
  obtain ⟨k, seg, hrun, hkn, hseg⟩ := comp hI hk2.1 [] []
  simp only [List.nil_append, List.length_nil] at hrun hseg
  have hlen := hseg.len
  have hok : OkProg (seg ++ [mIn]) := by
    refine ⟨by simp, by simp; omega, fun pc hpc => ?_⟩
    rw [List.length_append, List.length_singleton] at hpc ⊢
    by_cases hl : pc < seg.length
    · rw [List.getElem_append_left hl]
      have := hseg.ok (seg.length + 1) (by omega) pc hl
      rwa [Nat.zero_add] at this
    · rw [List.getElem_append_right (by omega)]
      simp only [List.getElem_singleton]
      exact .inr (.inr (.inr (.inr rfl)))
  refine ⟨seg ++ [mIn], r, ⟨⟨k, seg, by omega, hrun, rfl⟩, hok⟩, hr, hW, fun s m a ha => ?_⟩
  have hcode := hseg.code (seg ++ [mIn]) (fun j hj => by rw [Nat.zero_add, List.getElem?_append_left hj])
  rw [Nat.zero_add] at hcode
  rw [run_left hok hcode hC (x := mIn) (by simp) rfl m a ha]
  exact (leftG_congr (hE s) m a ha).symm
end Go.Proofs.Qxb6500283aGreat
