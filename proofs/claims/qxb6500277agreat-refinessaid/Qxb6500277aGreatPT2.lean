/- What the grammar reads: expressions. -/
import Derived.Test.Qxb6500277aGreatPT1
namespace Go.Proofs.Qxb6500277aGreat
open Go Go.RowKit

mutual
theorem OkE.down {lv d : Nat} : (e : Exp) → OkE lv (d + 1) e → OkE lv d e
  | .num .., h | .boo .., h => by simpa [OkE] using h
  | .var .., _ | .rd .., _ => by simp [OkE]
  | .call s p gs, h => by
    simp only [OkE] at h ⊢
    exact ⟨by omega, OkEs.down gs h.2⟩
  | .idx p a b, h => by
    simp only [OkE] at h ⊢
    exact ⟨by omega, OkE.down a h.2.1, OkE.down b h.2.2⟩
  | .new t p e, h => by
    simp only [OkE] at h ⊢
    exact ⟨h.1, by omega, OkE.down e h.2.2⟩
  | .len p e, h => by
    simp only [OkE] at h ⊢
    exact ⟨by omega, OkE.down e h.2⟩
  | .un k p e, h => by
    simp only [OkE] at h ⊢
    refine ⟨h.1, ?_⟩
    have h2 := h.2
    split at h2 <;> rename_i hc
    · rw [if_pos hc]; exact ⟨by omega, OkE.down e h2.2⟩
    · rw [if_neg hc]; exact ⟨by omega, OkE.down e h2.2⟩
  | .bin k p l r, h => by
    simp only [OkE] at h ⊢
    refine ⟨h.1, ?_⟩
    have h2 := h.2
    split at h2 <;> rename_i hc
    · rw [if_pos hc]; exact ⟨by omega, OkE.down l h2.2.1, OkE.down r h2.2.2⟩
    · rw [if_neg hc]; exact ⟨OkE.down l h2.1, OkE.down r h2.2⟩
theorem OkEs.down {d : Nat} : (es : Exps) → OkEs (d + 1) es → OkEs d es
  | .nil, h => by simp [OkEs]
  | .cons e es, h => by
    simp only [OkEs] at h ⊢
    exact ⟨OkE.down e h.1, OkEs.down es h.2⟩
end
theorem OkE.low {lv lv' d : Nat} {e : Exp} (h : OkE lv d e) (hl : lv' ≤ lv) : OkE lv' d e := by
  cases e with
  | un k p e =>
    simp only [OkE] at h ⊢
    refine ⟨h.1, ?_⟩
    have h2 := h.2
    by_cases hc : 6 < lv'
    · rw [if_pos hc]; rw [if_pos (by omega)] at h2; exact h2
    · rw [if_neg hc]
      split at h2
      · exact ⟨by omega, OkE.down e h2.2⟩
      · exact h2
  | bin k p l r =>
    simp only [OkE] at h ⊢
    refine ⟨h.1, ?_⟩
    have h2 := h.2
    by_cases hc : pow k < lv'
    · rw [if_pos hc]; rw [if_pos (by omega)] at h2; exact h2
    · rw [if_neg hc]
      split at h2
      · exact ⟨OkE.down l h2.2.1, OkE.down r h2.2.2⟩
      · exact h2
  | var | rd => simp [OkE]
  | _ => simpa [OkE] using h
/-- What stands in brackets may stand anywhere. -/
theorem OkE.paren {lv d : Nat} {e : Exp} (h : OkE 1 (d + 1) e) (hd : d < 8) : OkE lv d e := by
  cases e with
  | un k p e =>
    simp only [OkE] at h ⊢
    refine ⟨h.1, ?_⟩
    have h2 := h.2
    rw [if_neg (by omega)] at h2
    split
    · exact h2
    · exact ⟨hd, OkE.down e h2.2⟩
  | bin k p l r =>
    simp only [OkE] at h ⊢
    refine ⟨h.1, ?_⟩
    have h2 := h.2
    rw [if_neg (by omega)] at h2
    split
    · exact ⟨hd, h2⟩
    · exact ⟨OkE.down l h2.1, OkE.down r h2.2⟩
  | num | boo => simpa [OkE] using h
  | var | rd => simp [OkE]
  | call s p gs =>
    simp only [OkE] at h ⊢
    exact ⟨hd, OkEs.down gs h.2⟩
  | idx p a b =>
    simp only [OkE] at h ⊢
    exact ⟨hd, OkE.down a h.2.1, OkE.down b h.2.2⟩
  | new t p e =>
    simp only [OkE] at h ⊢
    exact ⟨h.1, hd, OkE.down e h.2.2⟩
  | len p e =>
    simp only [OkE] at h ⊢
    exact ⟨hd, OkE.down e h.2⟩
section
variable {T : List Tok} {n : Nat} {x : Int} {j : Nat} {ms : List Nd}
theorem run_call {q : Rq} {i : Nat} {ns : List Nd} {k : Int → Nat → List Nd → Mo} (h : run T n (.call q i ns k) = .ok x j ms) : ∃ m y j' ms', n = m + 1 ∧ run T m (body T q i ns) = .ok y j' ms' ∧ run T m (k y j' ms') = .ok x j ms := by
  cases n with
  | zero => simp [run] at h
  | succ m =>
    simp only [run] at h
    cases hr : run T m (body T q i ns) with
    | bad e p => rw [hr] at h; cases h
    | ok y j' ms' => rw [hr] at h; exact ⟨m, y, j', ms', rfl, hr, h⟩
theorem run_ret {r : Rs} : run T n (.ret r) = r := by cases n <;> rfl
theorem run_fin {a : Int} {b : Nat} {c : List Nd} (h : run T n (fin a b c) = .ok x j ms) : a = x ∧ b = j ∧ c = ms := by
  unfold fin at h
  rw [run_ret] at h
  cases h
  exact ⟨rfl, rfl, rfl⟩
theorem run_put {nd : Nd} {i : Nat} {ns : List Nd} {k : Int → Nat → List Nd → Mo} (h : run T n (put nd i ns k) = .ok x j ms) : run T n (k ns.length i (ns ++ [nd])) = .ok x j ms := by
  unfold put at h
  split at h
  · rw [run_ret] at h; cases h
  · exact h
theorem run_wnt {k : Int} {i : Nat} {f : Nat → Mo} (h : run T n (wnt T k i f) = .ok x j ms) : kd T i = k ∧ run T n (f (stp T i)) = .ok x j ms := by
  unfold wnt at h
  split at h
  · exact ⟨by assumption, h⟩
  · rw [run_ret] at h; cases h
theorem run_ent {d i : Nat} {m : Mo} (h : run T n (ent T d i m) = .ok x j ms) : d < 8 ∧ run T n m = .ok x j ms := by
  unfold ent at h
  split at h
  · rw [run_ret] at h; cases h
  · exact ⟨by omega, h⟩
theorem run_tyC : ∀ (c i : Nat) (f : Nat → Mo), run T n (tyC T c i f) = .ok x j ms → ∃ i', run T n (f i') = .ok x j ms
  | 0, i, f, h => ⟨i, h⟩
  | c + 1, i, f, h => by
    simp only [tyC] at h
    exact run_tyC c _ f (run_wnt h).2
theorem run_tyO : ∀ (l i : Nat) (f : Nat → Nat → Mo), run T n (tyO T l i f) = .ok x j ms → ∃ l' i', l' ≤ l ∧ run T n (f l' i') = .ok x j ms
  | 0, i, f, h => by
    simp only [tyO] at h
    split at h
    · rw [run_ret] at h; cases h
    · exact ⟨0, i, Nat.le_refl _, h⟩
  | l + 1, i, f, h => by
    simp only [tyO] at h
    split at h
    · obtain ⟨l', i', hl, h2⟩ := run_tyO l _ f h
      exact ⟨l', i', by omega, h2⟩
    · exact ⟨l + 1, i, Nat.le_refl _, h⟩
theorem run_typ {i : Nat} {f : Int → Nat → Mo} (h : run T n (typ T i f) = .ok x j ms) : ∃ t i', (0 ≤ t ∧ t < 8) ∧ run T n (f t i') = .ok x j ms := by
  unfold typ at h
  obtain ⟨l, i1, hl, h⟩ := run_tyO _ _ _ h
  split at h
  · obtain ⟨i2, h⟩ := run_tyC _ _ _ h
    exact ⟨_, i2, by omega, h⟩
  · split at h
    · obtain ⟨i2, h⟩ := run_tyC _ _ _ h
      exact ⟨_, i2, by omega, h⟩
    · rw [run_ret] at h; cases h
end
/-- ms is ns and an expression. -/
def GE (n0 : List Nd) (lv d : Nat) (x : Int) (ms : List Nd) : Prop := ∃ e, OkE lv d e ∧ ms = n0 ++ flE n0.length (-1) e ∧ x = rtE n0.length e
theorem GE.low {n0 : List Nd} {lv lv' d : Nat} {x : Int} {ms : List Nd} (h : GE n0 lv d x ms) (hl : lv' ≤ lv) : GE n0 lv' d x ms := by
  obtain ⟨e, h1, h2⟩ := h
  exact ⟨e, h1.low hl, h2⟩
def Gd (q : Rq) (ns : List Nd) (x : Int) (ms : List Nd) : Prop := match q with
  | .prim d | .post d | .inner d => GE ns 7 d x ms
  | .un d => GE ns 6 d x ms
  | .lev lv d => 1 ≤ lv → lv ≤ 6 → GE ns lv d x ms
  | .postL d y => ∀ n0, GE n0 7 d y ns → GE n0 7 d x ms
  | .levL lv d y => 1 ≤ lv → lv ≤ 5 → ∀ n0, GE n0 lv d y ns → GE n0 lv d x ms
  | .argL d f la => ∀ (n0 : List Nd) gs, ns = n0 ++ flEs n0.length gs → OkEs (d + 1) gs → f = hdE n0.length gs → (gs ≠ .nil → la = ((n0.length + szEs gs : Nat) : Int) - 1) → ∃ gs', OkEs (d + 1) gs' ∧ ms = n0 ++ flEs n0.length gs' ∧ x = hdE n0.length gs'
  | _ => True
theorem rtE_nn (b : Nat) (e : Exp) : 0 ≤ rtE b e := by have := szE_pos e; unfold rtE; omega
theorem hdE_neg {b : Nat} {gs : Exps} : hdE b gs < 0 ↔ gs = .nil := by
  cases gs with
  | nil => simp [hdE]
  | cons e es => have := rtE_nn b e; simp only [hdE]; constructor
                 · intro h; omega
                 · intro h; cases h
theorem OkEs.sn {d : Nat} {x : Exp} : (es : Exps) → OkEs d es → OkE 1 d x → OkEs d (snE es x)
  | .nil, _, h2 => by simp only [snE, OkEs]; exact ⟨h2, trivial⟩
  | .cons e es, h1, h2 => by
    simp only [snE, OkEs] at h1 ⊢
    exact ⟨h1.1, OkEs.sn es h1.2 h2⟩
/-- inner: what stands in its brackets. -/
theorem inner_dep {T : List Tok} {n m d i : Nat} {ns : List Nd} {x : Int} {j : Nat} {ms : List Nd} (ih : ∀ k, k < n → ∀ (q : Rq) (i : Nat) (ns : List Nd) (x : Int) (j : Nat) (ms : List Nd), run T k (body T q i ns) = .ok x j ms → Gd q ns x ms) (hm : m < n) (h : run T m (body T (.inner d) i ns) = .ok x j ms) :
    ∃ e, OkE 1 (d + 1) e ∧ d < 8 ∧ ms = ns ++ flE ns.length (-1) e ∧ x = rtE ns.length e := by
  simp only [body] at h
  split at h
  · obtain ⟨hd, h⟩ := run_ent h
    obtain ⟨m2, z, j', ms', rfl, hb, hk⟩ := run_call h
    obtain ⟨e1, o1, rfl, rfl⟩ := ih m2 (by omega) (.lev 1 (d + 1)) (stp T i) ns _ _ _ hb (by omega) (by omega)
    obtain ⟨rfl, _, rfl⟩ := run_fin (run_wnt hk).2
    exact ⟨e1, o1, hd, rfl, rfl⟩
  · rw [run_ret] at h; cases h
theorem tree {T : List Tok} (hv : ∀ i, kd T i = 2 → 0 ≤ (tk T i).val) : ∀ (n : Nat) (q : Rq) (i : Nat) (ns : List Nd) (x : Int) (j : Nat) (ms : List Nd), run T n (body T q i ns) = .ok x j ms → Gd q ns x ms := by
  intro n
  induction n using Nat.strongRecOn with
  | _ n ih =>
  intro q i ns x j ms h
  cases q with
  | lev lv d =>
    intro h1 h6
    simp only [body] at h
    split at h
    · obtain ⟨m, y, j', ms', rfl, hb, hk⟩ := run_call h
      obtain ⟨rfl, _, rfl⟩ := run_fin hk
      exact GE.low (ih m (by omega) (.un d) i ns _ _ _ hb) (by omega)
    · obtain ⟨m, y, j', ms', rfl, hb, hk⟩ := run_call h
      have g1 := ih m (by omega) (.lev (lv + 1) d) i ns _ _ _ hb (by omega) (by omega)
      obtain ⟨m2, y2, j2, ms2, rfl, hb2, hk2⟩ := run_call hk
      obtain ⟨rfl, _, rfl⟩ := run_fin hk2
      exact ih m2 (by omega) (.levL lv d y) j' ms' _ _ _ hb2 h1 (by omega) ns (g1.low (by omega))
  | levL lv d y =>
    intro h1 h5 n0 g0
    simp only [body] at h
    split at h
    · rename_i hp
      obtain ⟨m, z, j', ms', rfl, hb, hk⟩ := run_call h
      have g1 := ih m (by omega) (.lev (lv + 1) d) (stp T i) ns _ _ _ hb (by omega) (by omega)
      have hk2 := run_put hk
      obtain ⟨m2, y2, j2, ms2, rfl, hb2, hk3⟩ := run_call hk2
      obtain ⟨rfl, _, rfl⟩ := run_fin hk3
      refine ih m2 (by omega) (.levL lv d _) _ _ _ _ _ hb2 h1 h5 n0 ?_
      obtain ⟨e0, o0, rfl, rfl⟩ := g0
      obtain ⟨e1, o1, rfl, rfl⟩ := g1
      refine ⟨.bin (kd T i) (ps T i) e0 e1, ?_, ?_, ?_⟩
      · simp only [OkE]
        rw [hp, if_neg (by omega)]
        exact ⟨h1, o0, o1⟩
      · simp only [flE, List.length_append, flE_len, List.append_assoc]
      · simp only [rtE, szE, List.length_append, flE_len]; omega
    · obtain ⟨rfl, _, rfl⟩ := run_fin h
      exact g0
  | un d =>
    simp only [body] at h
    split at h
    · rename_i hp
      obtain ⟨hd, h⟩ := run_ent h
      obtain ⟨m, z, j', ms', rfl, hb, hk⟩ := run_call h
      obtain ⟨e1, o1, rfl, rfl⟩ := ih m (by omega) (.un (d + 1)) (stp T i) ns _ _ _ hb
      obtain ⟨rfl, _, rfl⟩ := run_fin (run_put hk)
      refine ⟨.un (kd T i) (ps T i) e1, ?_, ?_, ?_⟩
      · simp only [OkE]
        rw [if_neg (by omega)]
        exact ⟨hp, hd, o1⟩
      · simp only [flE, List.append_assoc]
      · simp only [rtE, szE, List.length_append, flE_len]; omega
    · obtain ⟨m, y, j', ms', rfl, hb, hk⟩ := run_call h
      obtain ⟨rfl, _, rfl⟩ := run_fin hk
      exact GE.low (ih m (by omega) (.post d) i ns _ _ _ hb) (by omega)
  | post d =>
    simp only [body] at h
    obtain ⟨m, y, j', ms', rfl, hb, hk⟩ := run_call h
    have g1 := ih m (by omega) (.prim d) i ns _ _ _ hb
    obtain ⟨m2, y2, j2, ms2, rfl, hb2, hk2⟩ := run_call hk
    obtain ⟨rfl, _, rfl⟩ := run_fin hk2
    exact ih m2 (by omega) (.postL d y) j' ms' _ _ _ hb2 ns g1
  | postL d y =>
    intro n0 g0
    simp only [body] at h
    split at h
    · obtain ⟨hd, h⟩ := run_ent h
      obtain ⟨m, z, j', ms', rfl, hb, hk⟩ := run_call h
      have g1 := ih m (by omega) (.lev 1 (d + 1)) (stp T i) ns _ _ _ hb (by omega) (by omega)
      obtain ⟨m2, y2, j2, ms2, rfl, hb2, hk3⟩ := run_call (run_put (run_wnt hk).2)
      obtain ⟨rfl, _, rfl⟩ := run_fin hk3
      refine ih m2 (by omega) (.postL d _) _ _ _ _ _ hb2 n0 ?_
      obtain ⟨e0, o0, rfl, rfl⟩ := g0
      obtain ⟨e1, o1, rfl, rfl⟩ := g1
      refine ⟨.idx (ps T i) e0 e1, ?_, ?_, ?_⟩
      · simp only [OkE]
        exact ⟨hd, o0, o1⟩
      · simp only [flE, List.length_append, flE_len, List.append_assoc]
      · simp only [rtE, szE, List.length_append, flE_len]; omega
    · obtain ⟨rfl, _, rfl⟩ := run_fin h
      exact g0
  | inner d =>
    simp only [body] at h
    split at h
    · obtain ⟨hd, h⟩ := run_ent h
      obtain ⟨m, z, j', ms', rfl, hb, hk⟩ := run_call h
      obtain ⟨e1, o1, rfl, rfl⟩ := ih m (by omega) (.lev 1 (d + 1)) (stp T i) ns _ _ _ hb (by omega) (by omega)
      obtain ⟨rfl, _, rfl⟩ := run_fin (run_wnt hk).2
      exact ⟨e1, o1.paren hd, rfl, rfl⟩
    · rw [run_ret] at h; cases h
  | prim d =>
    simp only [body] at h
    have leaf : ∀ (e : Exp) (nd : Nd), OkE 7 d e → flE ns.length (-1) e = [nd] → szE e = 1 → GE ns 7 d ns.length (ns ++ [nd]) := fun e nd h1 h2 h3 => ⟨e, h1, by rw [h2], by unfold rtE; rw [h3]; omega⟩
    split at h
    · rename_i hk
      obtain ⟨rfl, _, rfl⟩ := run_fin (run_put h)
      exact leaf (.num (tk T i).val (ps T i)) _ (by simp only [OkE]; exact hv i hk) rfl rfl
    split at h
    · obtain ⟨rfl, _, rfl⟩ := run_fin (run_put h)
      exact leaf (.boo 1 (ps T i)) _ (by simp [OkE]) rfl rfl
    split at h
    · obtain ⟨rfl, _, rfl⟩ := run_fin (run_put h)
      exact leaf (.boo 0 (ps T i)) _ (by simp [OkE]) rfl rfl
    split at h
    · obtain ⟨m, y, j', ms', rfl, hb, hk⟩ := run_call h
      obtain ⟨rfl, _, rfl⟩ := run_fin hk
      exact ih m (by omega) (.inner d) i ns _ _ _ hb
    split at h
    · obtain ⟨t, i2, ht, h⟩ := run_typ h
      obtain ⟨m, y, j', ms', rfl, hb, hk⟩ := run_call h
      obtain ⟨rfl, _, rfl⟩ := run_fin (run_put hk)
      have gi := inner_dep ih (by omega) hb
      obtain ⟨e1, o1, hd, rfl, rfl⟩ := gi
      refine ⟨.new t (ps T i) e1, ?_, ?_, ?_⟩
      · simp only [OkE]; exact ⟨ht, hd, o1⟩
      · simp only [flE, List.append_assoc]; rfl
      · simp only [rtE, szE, List.length_append, flE_len]; omega
    split at h
    · obtain ⟨m, y, j', ms', rfl, hb, hk⟩ := run_call h
      obtain ⟨rfl, _, rfl⟩ := run_fin (run_put hk)
      have gi := inner_dep ih (by omega) hb
      obtain ⟨e1, o1, hd, rfl, rfl⟩ := gi
      refine ⟨.len (ps T i) e1, ?_, ?_, ?_⟩
      · simp only [OkE]; exact ⟨hd, o1⟩
      · simp only [flE, List.append_assoc]; rfl
      · simp only [rtE, szE, List.length_append, flE_len]; omega
    split at h
    · obtain ⟨rfl, _, rfl⟩ := run_fin (run_put (run_wnt (run_wnt h).2).2)
      exact leaf (.rd (ps T i)) _ (by simp [OkE]) rfl rfl
    split at h
    · split at h
      · obtain ⟨hd, h⟩ := run_ent h
        obtain ⟨m, y, j', ms', rfl, hb, hk⟩ := run_call h
        obtain ⟨rfl, _, rfl⟩ := run_fin (run_put hk)
        obtain ⟨gs, o1, rfl, rfl⟩ := ih m (by omega) (.argL d (-1) (-1)) _ ns _ _ _ hb ns .nil (by simp [flEs]) (by simp [OkEs]) rfl (fun h => absurd rfl h)
        refine ⟨.call (tk T i).text (ps T i) gs, ?_, ?_, ?_⟩
        · simp only [OkE]; exact ⟨hd, o1⟩
        · simp only [flE, List.append_assoc]; rfl
        · simp only [rtE, szE, List.length_append, flEs_len]; omega
      · obtain ⟨rfl, _, rfl⟩ := run_fin (run_put h)
        exact leaf (.var (tk T i).text (ps T i)) _ (by simp [OkE]) rfl rfl
    · rw [run_ret] at h; cases h
  | argL d f la =>
    intro n0 gs hns ho hf hla
    simp only [body] at h
    split at h
    · obtain ⟨rfl, _, rfl⟩ := run_fin h
      exact ⟨gs, ho, hns, hf⟩
    · have key : ∀ i2, run T n (.call (.lev 1 (d + 1)) i2 ns fun x j ms => lnk ms f la x fun f ms => .call (.argL d f x) j ms fin) = .ok x j ms → ∃ gs', OkEs (d + 1) gs' ∧ ms = n0 ++ flEs n0.length gs' ∧ x = hdE n0.length gs' := fun i2 h => by
        obtain ⟨m, y, j', ms', rfl, hb, hk⟩ := run_call h
        obtain ⟨e1, o1, rfl, rfl⟩ := ih m (by omega) (.lev 1 (d + 1)) i2 ns _ _ _ hb (by omega) (by omega)
        have hlen : ns.length = n0.length + szEs gs := by rw [hns]; simp [flEs_len]
        by_cases hn : gs = .nil
        · subst hn
          have hf0 : f < 0 := by rw [hf]; simp [hdE]
          unfold lnk at hk
          rw [if_pos hf0] at hk
          obtain ⟨m2, y2, j2, ms2, rfl, hb2, hk3⟩ := run_call hk
          obtain ⟨rfl, _, rfl⟩ := run_fin hk3
          have en : ns = n0 := by rw [hns]; simp [flEs]
          subst en
          refine ih m2 (by omega) (.argL d _ _) _ _ _ _ _ hb2 ns (.cons e1 .nil) ?_ ?_ ?_ ?_
          · simp [flEs, hdE]
          · simp only [OkEs]; exact ⟨o1, trivial⟩
          · simp [hdE]
          · intro _; simp [rtE, szEs]
        · have hf0 : ¬ f < 0 := by rw [hf, hdE_neg]; exact hn
          unfold lnk at hk
          rw [if_neg hf0] at hk
          obtain ⟨m2, y2, j2, ms2, rfl, hb2, hk3⟩ := run_call hk
          obtain ⟨rfl, _, rfl⟩ := run_fin hk3
          have hpos : 0 < szEs gs := by
            cases gs with
            | nil => exact absurd rfl hn
            | cons e es => have := szE_pos e; simp [szEs]; omega
          have el : la.toNat = n0.length + szEs gs - 1 := by rw [hla hn]; omega
          refine ih m2 (by omega) (.argL d _ _) _ _ _ _ _ hb2 n0 (snE gs e1) ?_ (OkEs.sn gs ho o1) ?_ ?_
          · rw [el, hlen]
            have := lk_args gs e1 n0 n0.length hn
            rw [← this, hns]
          · rw [hf, hdE_sn _ _ hn]
          · intro _
            rw [szEs_sn]
            unfold rtE
            rw [hlen]
            omega
      unfold com at h
      split at h
      · exact key _ (run_wnt h).2
      · exact key _ h
  | _ => trivial
end Go.Proofs.Qxb6500277aGreat
