/- The round trip, plain: arguments; every expression. -/
import Derived.Test.Qxb6500280aRT2
namespace Go.Proofs.Qxb6500280a
open Go Go.RowKit

def apE : Exps → Exps → Exps
  | .nil, x => x
  | .cons e es, x => .cons e (apE es x)
theorem apE_sn (es : Exps) (e : Exp) (r : Exps) : apE (snE es e) r = apE es (.cons e r) := by
  induction es using Exps.rec (motive_1 := fun _ => True) with
  | nil => rfl
  | cons x es _ ih => simp only [snE, apE, ih]
  | _ => trivial
theorem apE_nil (es : Exps) : apE es .nil = es := by
  induction es using Exps.rec (motive_1 := fun _ => True) with
  | nil => rfl
  | cons x es _ ih => simp only [apE, ih]
  | _ => trivial
section
variable {T : List Tok}
/-- The arguments behind the first. -/
def RdR (T : List Tok) (es : Exps) : Prop := ∀ (gs : Exps) (d i : Nat) (n0 ns : List Nd), Zq ns (n0 ++ flEs n0.length gs) → gs ≠ .nil → Mx T i (tEr es ++ [tK 18]) → OkEs (d + 1) es → ns.length + szEs es ≤ 200 →
  ∃ ms, Zq ms (n0 ++ flEs n0.length (apE gs es)) ∧ EvM T (body T (.argL d (hdE n0.length gs) (((n0.length + szEs gs : Nat) : Int) - 1)) i ns) (.ok (hdE n0.length gs) (i + (tEr es).length + 1) ms)
theorem tEr_nx {es : Exps} {i : Nat} (h : Mx T i (tEr es ++ [tK 18])) : kd T i = 18 ∨ kd T i = 23 := by
  cases es with
  | nil => simp only [tEr, List.nil_append] at h; exact .inl (Mx.hd h).1
  | cons e es => simp only [tEr, List.cons_append] at h; exact .inr (Mx.hd h).1
theorem nx_no {k : Int} (h : k = 18 ∨ k = 23) : k ≠ 17 ∧ k ≠ 21 ∧ pow k < 1 := by rcases h with rfl | rfl <;> decide
theorem rdR_nil : RdR T .nil := fun gs d i n0 ns hz hg hm ho hr => by
  simp only [tEr, List.nil_append] at hm
  have k1 := (Mx.hd hm).1
  have s1 := (Mx.hd hm).2.2.2.1
  simp only [tK] at k1
  refine ⟨ns, by rw [apE_nil]; exact hz, ?_⟩
  rw [body, if_pos k1, s1]
  exact .fin _ _ _
theorem szEs_pos {gs : Exps} (h : gs ≠ .nil) : 0 < szEs gs := by
  cases gs with
  | nil => exact absurd rfl h
  | cons e es => have := szE_pos e; simp [szEs]; omega
theorem rdR_cons {e : Exp} {es : Exps} (He : Rd T e) (Hs : RdR T es) : RdR T (.cons e es) := fun gs d i n0 ns hz hg hm ho hr => by
  simp only [tEr, List.cons_append, List.append_assoc] at hm
  simp only [OkEs] at ho
  simp only [szEs] at hr
  obtain ⟨k1, _, _, s1, m1⟩ := Mx.hd hm
  obtain ⟨m2, m3⟩ := Mx.app m1
  simp only [tK] at k1
  have hx := nx_no (tEr_nx m3)
  have hln := hz.len
  simp only [List.length_append, flEs_len] at hln
  obtain ⟨ms, z1, h1⟩ := He.levB (lv := 1) (ns := ns) (Nat.le_refl _) (by omega) (pwE_pos ho.1) m2 ho.1 (by omega) hx.1 hx.2.1 hx.2.2
  have hl1 := z1.len
  simp only [List.length_append, flE_len] at hl1
  have hp := szEs_pos hg
  have z2 : Zq (setNx ms (n0.length + szEs gs - 1) (rtE ns.length e)) (n0 ++ flEs n0.length (snE gs e)) := by
    rw [← lk_args gs e n0 n0.length hg, hln]
    refine Zq.set ?_ _ _
    refine z1.trans ?_
    rw [hln]
    exact hz.app (Zq.refl _)
  obtain ⟨ms2, z3, h3⟩ := Hs (snE gs e) d (i + 1 + (tB e).length) n0 _ z2 (by cases gs <;> simp [snE]) m3 ho.2 (by rw [setNx_len]; omega)
  refine ⟨ms2, by rw [← apE_sn]; exact z3, ?_⟩
  have hf : ¬ hdE n0.length gs < 0 := by rw [hdE_neg]; exact hg
  rw [body, if_neg (by rw [k1]; decide)]
  unfold com
  rw [if_pos (by omega), wnt_ok k1, s1]
  refine EvM.ok h1 ?_
  unfold lnk
  rw [if_neg hf, show ((((n0.length + szEs gs : Nat) : Int)) - 1).toNat = n0.length + szEs gs - 1 by omega]
  rw [hdE_sn _ _ hg, szEs_sn] at h3
  rw [show i + (tEr (.cons e es)).length + 1 = i + 1 + (tB e).length + (tEr es).length + 1 by simp only [tEr, List.length_cons, List.length_append]; omega]
  rw [show (((n0.length + (szEs gs + szE e) : Nat) : Int)) - 1 = rtE ns.length e by unfold rtE; rw [hln]; omega] at h3
  exact evm_call h3
/-- All arguments. -/
def RdA (T : List Tok) (es : Exps) : Prop := ∀ (d i : Nat) (ns : List Nd), Mx T i (tEs es ++ [tK 18]) → OkEs (d + 1) es → ns.length + szEs es ≤ 200 →
  ∃ ms, Zq ms (ns ++ flEs ns.length es) ∧ EvM T (body T (.argL d (-1) (-1)) i ns) (.ok (hdE ns.length es) (i + (tEs es).length + 1) ms)
theorem rdA_nil : RdA T .nil := fun d i ns hm ho hr => by
  simp only [tEs, List.nil_append] at hm
  have k1 := (Mx.hd hm).1
  have s1 := (Mx.hd hm).2.2.2.1
  simp only [tK] at k1
  refine ⟨ns, by simp only [flEs, List.append_nil]; exact Zq.refl _, ?_⟩
  rw [body, if_pos k1, s1]
  exact .fin _ _ _
theorem rdA_cons {e : Exp} {es : Exps} (He : Rd T e) (Hs : RdR T es) : RdA T (.cons e es) := fun d i ns hm ho hr => by
  simp only [tEs, List.append_assoc] at hm
  simp only [OkEs] at ho
  simp only [szEs] at hr
  obtain ⟨m2, m3⟩ := Mx.app hm
  have hx := nx_no (tEr_nx m3)
  obtain ⟨t, l, b1, b2, _⟩ := tB_hd e ho.1
  have k1 : kd T i = t.kind := (Mx.hd (b1 ▸ m2)).1
  obtain ⟨ms, z1, h1⟩ := He.levB (lv := 1) (ns := ns) (Nat.le_refl _) (by omega) (pwE_pos ho.1) m2 ho.1 (by omega) hx.1 hx.2.1 hx.2.2
  have hl1 := z1.len
  simp only [List.length_append, flE_len] at hl1
  obtain ⟨ms2, z3, h3⟩ := Hs (.cons e .nil) d (i + (tB e).length) ns ms (by simpa [flEs, hdE] using z1) (by simp) m3 ho.2 (by omega)
  refine ⟨ms2, by simpa [apE] using z3, ?_⟩
  rw [body, if_neg (by rw [k1]; unfold Bg at b2; omega)]
  unfold com
  rw [if_neg (by omega)]
  refine EvM.ok h1 ?_
  unfold lnk
  rw [if_pos (by omega)]
  rw [show i + (tEs (.cons e es)).length + 1 = i + (tB e).length + (tEr es).length + 1 by simp only [tEs, List.length_append]; omega]
  simp only [hdE, szEs, Nat.add_zero] at h3 ⊢
  exact evm_call h3
theorem rd_call {s : ByteArray} {p : Int} {gs : Exps} (H : RdA T gs) : Rd T (.call s p gs) := fun d i ns hm ho hr hn => by
  simp only [tB] at hm
  simp only [OkE] at ho
  simp only [szE] at hr
  obtain ⟨k1, _, t1, s1, m1⟩ := Mx.hd hm
  obtain ⟨k2, _, _, s2, m2⟩ := Mx.hd m1
  simp only [tI] at k1 t1
  simp only [tK] at k2
  obtain ⟨ms, hz, h⟩ := H d (i + 1 + 1) ns m2 ho.2 (by omega)
  have hl := hz.len
  simp only [List.length_append, flEs_len] at hl
  refine ⟨ms ++ [{ fre 13 (ps T i) with a := hdE ns.length gs, name := (tk T i).text }], ?_, Cw.post (primP ?_) rfl⟩
  · simp only [flE]
    rw [← List.append_assoc]
    exact hz.app (.one (by simp [zN, fre, t1]))
  · rw [body]
    simp only [k1, ↓reduceIte, Int.reduceEq]
    rw [s1, if_pos k2, ent_ok (by omega), s2]
    refine EvM.ok h ?_
    rw [put_ok (by omega), rt_one _ (szEs gs) (.call s p gs) rfl, hl, show i + (tB (.call s p gs)).length = i + 1 + 1 + (tEs gs).length + 1 by simp only [tB, List.length_cons, List.length_append, List.length_nil]; omega]
    exact .fin _ _ _
end
mutual
theorem rdE (T : List Tok) : (e : Exp) → Rd T e
  | .num v p => rd_num v p
  | .boo v p => rd_boo v p
  | .var s p => rd_var s p
  | .rd p => rd_rd p
  | .call _ _ gs => rd_call (rdA T gs)
  | .idx _ a b => rd_idx (rdE T a) (rdE T b)
  | .new _ _ e => rd_new (rdE T e)
  | .len _ e => rd_len (rdE T e)
  | .un _ _ e => rd_un (rdE T e)
  | .bin _ _ l r => rd_bin (rdE T l) (rdE T r)
theorem rdA (T : List Tok) : (es : Exps) → RdA T es
  | .nil => rdA_nil
  | .cons e es => rdA_cons (rdE T e) (rdR T es)
theorem rdR (T : List Tok) : (es : Exps) → RdR T es
  | .nil => rdR_nil
  | .cons e es => rdR_cons (rdE T e) (rdR T es)
end
/-- An expression, as a statement sees it. -/
theorem rd_expr {T : List Tok} {e : Exp} {d i : Nat} {ns : List Nd} (hm : Mx T i (tB e)) (ho : OkE 1 d e) (hr : ns.length + szE e ≤ 200) (hx : kd T (i + (tB e).length) = 24 ∨ kd T (i + (tB e).length) = 25 ∨ kd T (i + (tB e).length) = 19) :
    ∃ ms, Zq ms (ns ++ flE ns.length (-1) e) ∧ EvM T (body T (.lev 1 d) i ns) (.ok (rtE ns.length e) (i + (tB e).length) ms) := by
  obtain ⟨n1, n2, n3⟩ : kd T (i + (tB e).length) ≠ 17 ∧ kd T (i + (tB e).length) ≠ 21 ∧ pow (kd T (i + (tB e).length)) < 1 := by rcases hx with h | h | h <;> rw [h] <;> decide
  exact (rdE T e).levB (Nat.le_refl _) (by omega) (pwE_pos ho) hm ho hr n1 n2 n3
end Go.Proofs.Qxb6500280a
