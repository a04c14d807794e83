/- The round trip, plain: the print is short. -/
import Derived.Test.Qxb6500280aRT9
namespace Go.Proofs.Qxb6500280a
open Go Go.RowKit

theorem tyX_len (t : Int) : (tyX t).length ≤ 16 := by unfold tyX; (repeat' split) <;> decide
theorem dgT_len {v : Int} (h : NumOk v) : (dgT v).length ≤ 20 := by
  unfold dgT
  split
  · decide
  · exact (dgs_v 20 v.toNat (by have := h.2; omega)).2.2.2
theorem wrL_len (c : Bool) (l : List UInt8) : (wrL c l).length ≤ l.length + 4 := by
  unfold wrL
  split <;> simp
theorem tokT_len (k : Int) : (tokText k).data.toList.length ≤ 6 := by
  rw [show (tokText k).data.toList.length = (tokText k).size by simp]
  exact tokText_size k
theorem id_len {s : ByteArray} (h : IdOk s) : s.data.toList.length ≤ 8 := by have := h.2.1; simpa using this
mutual
theorem len_B : (e : Exp) → NE e → (prB e).length + 12 ≤ 48 * szE e
  | .num v p, h => by simp only [NE] at h; have := dgT_len h; simp only [prB, szE]; omega
  | .boo v p, _ => by simp only [prB, szE]; split <;> decide
  | .var s p, h => by simp only [NE] at h; have := id_len h; simp only [prB, szE]; omega
  | .rd p, _ => by simp only [prB, szE]; decide
  | .call s p gs, h => by
    simp only [NE] at h
    have := id_len h.1
    have := len_L gs h.2
    simp only [prB, szE, List.length_append, List.length_cons, List.length_nil]
    omega
  | .idx p a b, h => by
    simp only [NE] at h
    have := len_B a h.1
    have := len_B b h.2
    have := wrL_len (decide (pwE a < 7)) (prB a)
    simp only [prB, szE, List.length_append, List.length_cons, List.length_nil]
    omega
  | .new t p e, h => by
    simp only [NE] at h
    have := len_B e h
    have := tyX_len t
    simp only [prB, szE, List.length_append, List.length_cons, List.length_nil]
    omega
  | .len p e, h => by
    simp only [NE] at h
    have := len_B e h
    simp only [prB, szE, List.length_append, List.length_cons, List.length_nil]
    omega
  | .un k p e, h => by
    simp only [NE] at h
    have := len_B e h
    have := wrL_len (decide (pwE e < 6)) (prB e)
    have := tokT_len k
    simp only [prB, szE, List.length_append, List.length_cons, List.length_nil]
    omega
  | .bin k p l r, h => by
    simp only [NE] at h
    have := len_B l h.1
    have := len_B r h.2
    have := wrL_len (decide (pwE l < pow k)) (prB l)
    have := wrL_len (decide (pwE r < pow k + 1)) (prB r)
    have := tokT_len k
    simp only [prB, szE, List.length_append, List.length_cons, List.length_nil]
    omega
theorem len_L : (es : Exps) → NEs es → (prL es).length ≤ 48 * szEs es
  | .nil, _ => by simp [prL]
  | .cons e es, h => by
    simp only [NEs] at h
    have := len_B e h.1
    have := len_R es h.2
    simp only [prL, szEs, List.length_append]
    omega
theorem len_R : (es : Exps) → NEs es → (prR es).length ≤ 48 * szEs es
  | .nil, _ => by simp [prR]
  | .cons e es, h => by
    simp only [NEs] at h
    have := len_B e h.1
    have := len_R es h.2
    simp only [prR, szEs, List.length_append, List.length_cons, List.length_nil]
    omega
end
mutual
theorem len_S : (s : Stm) → NS s → (prS s).length ≤ 48 * szS s
  | .vd s p t e, h => by
    simp only [NS] at h
    have := id_len h.1
    have := len_B e h.2
    have := tyX_len t
    simp only [prS, szS, List.length_append, List.length_cons, List.length_nil]
    omega
  | .asg p a b, h => by
    simp only [NS] at h
    have := len_B a h.1
    have := len_B b h.2
    simp only [prS, szS, List.length_append, List.length_cons, List.length_nil]
    omega
  | .iff p e bp b, h => by
    simp only [NS] at h
    have := len_B e h.1
    have := len_Ss b h.2
    simp only [prS, szS, List.length_append, List.length_cons, List.length_nil]
    omega
  | .ife p e bp b cp c, h => by
    simp only [NS] at h
    have := len_B e h.1
    have := len_Ss b h.2.1
    have := len_Ss c h.2.2
    simp only [prS, szS, List.length_append, List.length_cons, List.length_nil]
    omega
  | .whl p e bp b, h => by
    simp only [NS] at h
    have := len_B e h.1
    have := len_Ss b h.2
    simp only [prS, szS, List.length_append, List.length_cons, List.length_nil]
    omega
  | .ret p e, h => by
    simp only [NS] at h
    have := len_B e h
    simp only [prS, szS, List.length_append, List.length_cons, List.length_nil]
    omega
  | .prt p e, h => by
    simp only [NS] at h
    have := len_B e h
    simp only [prS, szS, List.length_append, List.length_cons, List.length_nil]
    omega
  | .exp e, h => by
    simp only [NS] at h
    have := len_B e h
    simp only [prS, szS, List.length_append, List.length_cons, List.length_nil]
    omega
theorem len_Ss : (ss : Stms) → NSs ss → (prSs ss).length ≤ 48 * szSs ss
  | .nil, _ => by simp [prSs]
  | .cons s ss, h => by
    simp only [NSs] at h
    have := len_S s h.1
    have := len_Ss ss h.2
    simp only [prSs, szSs, List.length_append]
    omega
end
theorem len_P1 {x : Prm} (h : IdOk x.s) : (prP1 x).length ≤ 26 := by
  have := id_len h
  have := tyX_len x.t
  simp only [prP1, List.length_append, List.length_cons, List.length_nil]
  omega
theorem len_Pr : ∀ (xs : List Prm), (∀ x ∈ xs, IdOk x.s) → (prPr xs).length ≤ 48 * xs.length
  | [], _ => by simp [prPr]
  | x :: r, h => by
    have := len_P1 (h x (by simp))
    have := len_Pr r (fun y hy => h y (by simp [hy]))
    simp only [prPr, List.length_append, List.length_cons, List.length_nil]
    omega
theorem len_Ps (xs : List Prm) (h : ∀ x ∈ xs, IdOk x.s) : (prPs xs).length ≤ 48 * xs.length := by
  cases xs with
  | nil => simp [prPs]
  | cons x r =>
    have := len_P1 (h x (by simp))
    have := len_Pr r (fun y hy => h y (by simp [hy]))
    simp only [prPs, List.length_append, List.length_cons]
    omega
theorem len_F (f : Fnc) (h : NFn f) : (prF f).length ≤ 48 * szF f := by
  obtain ⟨h1, h2, h3⟩ := h
  have := id_len h1
  have := len_Ps f.ps h2
  have := len_Ss f.ss h3
  have := tyX_len f.t
  simp only [prF, prBl, szF, List.length_append, List.length_cons, List.length_nil]
  omega
theorem len_Fs : ∀ (fs : List Fnc), (∀ f ∈ fs, NFn f) → (prFs fs).length ≤ 48 * szFs fs
  | [], _ => by simp [prFs]
  | f :: r, h => by
    have := len_F f (h f (by simp))
    have := len_Fs r (fun y hy => h y (by simp [hy]))
    simp only [prFs, szFs, List.length_append]
    omega
end Go.Proofs.Qxb6500280a
