/- The round trip, plain: what is printed, as bytes. -/
import Derived.Test.Qxb6500280aRT7
namespace Go.Proofs.Qxb6500280a
open Go Go.RowKit

/-- The digits of a number. -/
def dgs : Nat → Nat → List UInt8
  | 0, _ => []
  | f + 1, n => if n = 0 then [] else dgs f (n / 10) ++ [UInt8.ofNat (48 + n % 10)]
def dgT (v : Int) : List UInt8 := if v ≤ 0 then [48] else dgs 20 v.toNat
def tyX (t : Int) : List UInt8 :=
  if t = 0 then [105, 110, 116]
  else if t = 1 then [98, 111, 111, 108]
  else if t = 2 then [91, 32, 105, 110, 116, 32, 93]
  else if t = 3 then [91, 32, 98, 111, 111, 108, 32, 93]
  else if t = 4 then [91, 32, 91, 32, 105, 110, 116, 32, 93, 32, 93]
  else if t = 5 then [91, 32, 91, 32, 98, 111, 111, 108, 32, 93, 32, 93]
  else if t = 6 then [91, 32, 91, 32, 91, 32, 105, 110, 116, 32, 93, 32, 93, 32, 93]
  else [91, 32, 91, 32, 91, 32, 98, 111, 111, 108, 32, 93, 32, 93, 32, 93]
def wrL (c : Bool) (l : List UInt8) : List UInt8 := if c then [40, 32] ++ l ++ [32, 41] else l
mutual
def prB : Exp → List UInt8
  | .num v _ => dgT v
  | .boo v _ => if v = 0 then [102, 97, 108, 115, 101] else [116, 114, 117, 101]
  | .var s _ => s.data.toList
  | .rd _ => [114, 101, 97, 100, 32, 40, 32, 41]
  | .call s _ gs => s.data.toList ++ ([32, 40, 32] ++ (prL gs ++ [32, 41]))
  | .idx _ a b => wrL (decide (pwE a < 7)) (prB a) ++ ([32, 91, 32] ++ (prB b ++ [32, 93]))
  | .new t _ e => [110, 101, 119, 32] ++ (tyX t ++ ([32, 40, 32] ++ (prB e ++ [32, 41])))
  | .len _ e => [108, 101, 110, 32, 40, 32] ++ (prB e ++ [32, 41])
  | .un k _ e => (tokText k).data.toList ++ ([32] ++ wrL (decide (pwE e < 6)) (prB e))
  | .bin k _ l r => wrL (decide (pwE l < pow k)) (prB l) ++ ([32] ++ ((tokText k).data.toList ++ ([32] ++ wrL (decide (pwE r < pow k + 1)) (prB r))))
def prL : Exps → List UInt8
  | .nil => []
  | .cons e es => prB e ++ prR es
def prR : Exps → List UInt8
  | .nil => []
  | .cons e es => [32, 44, 32] ++ (prB e ++ prR es)
end
mutual
def prS : Stm → List UInt8
  | .vd s _ t e => [118, 97, 114, 32] ++ (s.data.toList ++ ([32] ++ (tyX t ++ ([32, 61, 32] ++ (prB e ++ [32, 59, 32])))))
  | .asg _ a b => prB a ++ ([32, 61, 32] ++ (prB b ++ [32, 59, 32]))
  | .iff _ e _ b => [105, 102, 32] ++ (prB e ++ ([32] ++ ([123, 32] ++ (prSs b ++ [125, 32]))))
  | .ife _ e _ b _ c => [105, 102, 32] ++ (prB e ++ ([32] ++ (([123, 32] ++ (prSs b ++ [125, 32])) ++ ([101, 108, 115, 101, 32] ++ ([123, 32] ++ (prSs c ++ [125, 32]))))))
  | .whl _ e _ b => [119, 104, 105, 108, 101, 32] ++ (prB e ++ ([32] ++ ([123, 32] ++ (prSs b ++ [125, 32]))))
  | .ret _ e => [114, 101, 116, 117, 114, 110, 32] ++ (prB e ++ [32, 59, 32])
  | .prt _ e => [112, 114, 105, 110, 116, 32] ++ (prB e ++ [32, 59, 32])
  | .exp e => prB e ++ [32, 59, 32]
def prSs : Stms → List UInt8
  | .nil => []
  | .cons s ss => prS s ++ prSs ss
end
def prBl (ss : Stms) : List UInt8 := [123, 32] ++ (prSs ss ++ [125, 32])
def prP1 (x : Prm) : List UInt8 := x.s.data.toList ++ ([32] ++ (tyX x.t ++ [32]))
def prPr : List Prm → List UInt8
  | [] => []
  | x :: r => [44, 32] ++ (prP1 x ++ prPr r)
def prPs : List Prm → List UInt8
  | [] => []
  | x :: r => prP1 x ++ prPr r
def prF (f : Fnc) : List UInt8 := [102, 117, 110, 99, 32] ++ (f.s.data.toList ++ ([32, 40, 32] ++ (prPs f.ps ++ ([41, 32] ++ (tyX f.t ++ ([32] ++ prBl f.ss))))))
def prFs : List Fnc → List UInt8
  | [] => []
  | f :: r => prF f ++ prFs r
/-- The names and the numbers of a tree are those of tokens. -/
def NumOk (v : Int) : Prop := 0 ≤ v ∧ v ≤ 9223372036854775807
mutual
def NE : Exp → Prop
  | .num v _ => NumOk v
  | .boo .. | .rd .. => True
  | .var s _ => IdOk s
  | .call s _ gs => IdOk s ∧ NEs gs
  | .idx _ a b => NE a ∧ NE b
  | .new _ _ e | .len _ e | .un _ _ e => NE e
  | .bin _ _ l r => NE l ∧ NE r
def NEs : Exps → Prop
  | .nil => True
  | .cons e es => NE e ∧ NEs es
end
mutual
def NS : Stm → Prop
  | .vd s _ _ e => IdOk s ∧ NE e
  | .asg _ a b => NE a ∧ NE b
  | .iff _ e _ b | .whl _ e _ b => NE e ∧ NSs b
  | .ife _ e _ b _ c => NE e ∧ NSs b ∧ NSs c
  | .ret _ e | .prt _ e | .exp e => NE e
def NSs : Stms → Prop
  | .nil => True
  | .cons s ss => NS s ∧ NSs ss
end
def NFn (f : Fnc) : Prop := IdOk f.s ∧ (∀ x ∈ f.ps, IdOk x.s) ∧ NSs f.ss
theorem Sc.kw (k : Nat) (h1 : 3 ≤ k) (h2 : k ≤ 39) : Sc ((tokText k).data.toList ++ [32]) [tK k] := .one (.kw h1 h2)
theorem Sc.kwI (k : Int) (h1 : 3 ≤ k) (h2 : k ≤ 39) : Sc ((tokText k).data.toList ++ [32]) [tK k] := by
  have := Sc.kw k.toNat (by omega) (by omega)
  rwa [show ((k.toNat : Nat) : Int) = k by omega] at this
theorem sc3 : Sc [102, 117, 110, 99, 32] [tK 3] := by
  have h := Sc.kw 3 (by omega) (by omega)
  rwa [show (tokText ((3 : Nat) : Int)).data.toList ++ [32] = [102, 117, 110, 99, 32] by decide, show ((3 : Nat) : Int) = 3 by decide] at h
theorem sc4 : Sc [118, 97, 114, 32] [tK 4] := by
  have h := Sc.kw 4 (by omega) (by omega)
  rwa [show (tokText ((4 : Nat) : Int)).data.toList ++ [32] = [118, 97, 114, 32] by decide, show ((4 : Nat) : Int) = 4 by decide] at h
theorem sc5 : Sc [105, 102, 32] [tK 5] := by
  have h := Sc.kw 5 (by omega) (by omega)
  rwa [show (tokText ((5 : Nat) : Int)).data.toList ++ [32] = [105, 102, 32] by decide, show ((5 : Nat) : Int) = 5 by decide] at h
theorem sc6 : Sc [101, 108, 115, 101, 32] [tK 6] := by
  have h := Sc.kw 6 (by omega) (by omega)
  rwa [show (tokText ((6 : Nat) : Int)).data.toList ++ [32] = [101, 108, 115, 101, 32] by decide, show ((6 : Nat) : Int) = 6 by decide] at h
theorem sc7 : Sc [119, 104, 105, 108, 101, 32] [tK 7] := by
  have h := Sc.kw 7 (by omega) (by omega)
  rwa [show (tokText ((7 : Nat) : Int)).data.toList ++ [32] = [119, 104, 105, 108, 101, 32] by decide, show ((7 : Nat) : Int) = 7 by decide] at h
theorem sc8 : Sc [114, 101, 116, 117, 114, 110, 32] [tK 8] := by
  have h := Sc.kw 8 (by omega) (by omega)
  rwa [show (tokText ((8 : Nat) : Int)).data.toList ++ [32] = [114, 101, 116, 117, 114, 110, 32] by decide, show ((8 : Nat) : Int) = 8 by decide] at h
theorem sc9 : Sc [112, 114, 105, 110, 116, 32] [tK 9] := by
  have h := Sc.kw 9 (by omega) (by omega)
  rwa [show (tokText ((9 : Nat) : Int)).data.toList ++ [32] = [112, 114, 105, 110, 116, 32] by decide, show ((9 : Nat) : Int) = 9 by decide] at h
theorem sc10 : Sc [116, 114, 117, 101, 32] [tK 10] := by
  have h := Sc.kw 10 (by omega) (by omega)
  rwa [show (tokText ((10 : Nat) : Int)).data.toList ++ [32] = [116, 114, 117, 101, 32] by decide, show ((10 : Nat) : Int) = 10 by decide] at h
theorem sc11 : Sc [102, 97, 108, 115, 101, 32] [tK 11] := by
  have h := Sc.kw 11 (by omega) (by omega)
  rwa [show (tokText ((11 : Nat) : Int)).data.toList ++ [32] = [102, 97, 108, 115, 101, 32] by decide, show ((11 : Nat) : Int) = 11 by decide] at h
theorem sc12 : Sc [110, 101, 119, 32] [tK 12] := by
  have h := Sc.kw 12 (by omega) (by omega)
  rwa [show (tokText ((12 : Nat) : Int)).data.toList ++ [32] = [110, 101, 119, 32] by decide, show ((12 : Nat) : Int) = 12 by decide] at h
theorem sc13 : Sc [108, 101, 110, 32] [tK 13] := by
  have h := Sc.kw 13 (by omega) (by omega)
  rwa [show (tokText ((13 : Nat) : Int)).data.toList ++ [32] = [108, 101, 110, 32] by decide, show ((13 : Nat) : Int) = 13 by decide] at h
theorem sc14 : Sc [114, 101, 97, 100, 32] [tK 14] := by
  have h := Sc.kw 14 (by omega) (by omega)
  rwa [show (tokText ((14 : Nat) : Int)).data.toList ++ [32] = [114, 101, 97, 100, 32] by decide, show ((14 : Nat) : Int) = 14 by decide] at h
theorem sc15 : Sc [105, 110, 116, 32] [tK 15] := by
  have h := Sc.kw 15 (by omega) (by omega)
  rwa [show (tokText ((15 : Nat) : Int)).data.toList ++ [32] = [105, 110, 116, 32] by decide, show ((15 : Nat) : Int) = 15 by decide] at h
theorem sc16 : Sc [98, 111, 111, 108, 32] [tK 16] := by
  have h := Sc.kw 16 (by omega) (by omega)
  rwa [show (tokText ((16 : Nat) : Int)).data.toList ++ [32] = [98, 111, 111, 108, 32] by decide, show ((16 : Nat) : Int) = 16 by decide] at h
theorem sc17 : Sc [40, 32] [tK 17] := by
  have h := Sc.kw 17 (by omega) (by omega)
  rwa [show (tokText ((17 : Nat) : Int)).data.toList ++ [32] = [40, 32] by decide, show ((17 : Nat) : Int) = 17 by decide] at h
theorem sc18 : Sc [41, 32] [tK 18] := by
  have h := Sc.kw 18 (by omega) (by omega)
  rwa [show (tokText ((18 : Nat) : Int)).data.toList ++ [32] = [41, 32] by decide, show ((18 : Nat) : Int) = 18 by decide] at h
theorem sc19 : Sc [123, 32] [tK 19] := by
  have h := Sc.kw 19 (by omega) (by omega)
  rwa [show (tokText ((19 : Nat) : Int)).data.toList ++ [32] = [123, 32] by decide, show ((19 : Nat) : Int) = 19 by decide] at h
theorem sc20 : Sc [125, 32] [tK 20] := by
  have h := Sc.kw 20 (by omega) (by omega)
  rwa [show (tokText ((20 : Nat) : Int)).data.toList ++ [32] = [125, 32] by decide, show ((20 : Nat) : Int) = 20 by decide] at h
theorem sc21 : Sc [91, 32] [tK 21] := by
  have h := Sc.kw 21 (by omega) (by omega)
  rwa [show (tokText ((21 : Nat) : Int)).data.toList ++ [32] = [91, 32] by decide, show ((21 : Nat) : Int) = 21 by decide] at h
theorem sc22 : Sc [93, 32] [tK 22] := by
  have h := Sc.kw 22 (by omega) (by omega)
  rwa [show (tokText ((22 : Nat) : Int)).data.toList ++ [32] = [93, 32] by decide, show ((22 : Nat) : Int) = 22 by decide] at h
theorem sc23 : Sc [44, 32] [tK 23] := by
  have h := Sc.kw 23 (by omega) (by omega)
  rwa [show (tokText ((23 : Nat) : Int)).data.toList ++ [32] = [44, 32] by decide, show ((23 : Nat) : Int) = 23 by decide] at h
theorem sc24 : Sc [59, 32] [tK 24] := by
  have h := Sc.kw 24 (by omega) (by omega)
  rwa [show (tokText ((24 : Nat) : Int)).data.toList ++ [32] = [59, 32] by decide, show ((24 : Nat) : Int) = 24 by decide] at h
theorem sc25 : Sc [61, 32] [tK 25] := by
  have h := Sc.kw 25 (by omega) (by omega)
  rwa [show (tokText ((25 : Nat) : Int)).data.toList ++ [32] = [61, 32] by decide, show ((25 : Nat) : Int) = 25 by decide] at h
theorem Sc.id {s : ByteArray} (h : IdOk s) : Sc (s.data.toList ++ [32]) [tI s] := .one (.id h)
/-- The pieces come in the right order. -/
theorem Sc.cat {a b c : List UInt8} {s t u : List Tok} (h : Sc a s) (h' : Sc b t) (hc : c = a ++ b) (hu : u = s ++ t) : Sc c u := by rw [hc, hu]; exact h.app h'
theorem sc_ty {t : Int} (h : 0 ≤ t ∧ t < 8) : Sc (tyX t ++ [32]) (tyT t) := by
  rcases (show t = 0 ∨ t = 1 ∨ t = 2 ∨ t = 3 ∨ t = 4 ∨ t = 5 ∨ t = 6 ∨ t = 7 by omega) with rfl | rfl | rfl | rfl | rfl | rfl | rfl | rfl
  · exact sc15
  · exact sc16
  · exact sc21.app (sc15.app sc22)
  · exact sc21.app (sc16.app sc22)
  · exact sc21.app (sc21.app (sc15.app (sc22.app sc22)))
  · exact sc21.app (sc21.app (sc16.app (sc22.app sc22)))
  · exact sc21.app (sc21.app (sc21.app (sc15.app (sc22.app (sc22.app sc22)))))
  · exact sc21.app (sc21.app (sc21.app (sc16.app (sc22.app (sc22.app sc22)))))
theorem dV_snoc (l : List UInt8) (c : UInt8) : dV (l ++ [c]) = dV l * 10 + (c.toNat - 48) := by simp [dV, List.foldl_append]
theorem dgs_v : ∀ (f n : Nat), n < 10 ^ f → dV (dgs f n) = n ∧ (∀ c ∈ dgs f n, digitB c.toNat = true) ∧ (n ≠ 0 → dgs f n ≠ []) ∧ (dgs f n).length ≤ f
  | 0, n, h => by
    have : n = 0 := by simpa using h
    subst this
    exact ⟨rfl, fun c h => by simp [dgs] at h, fun h => absurd rfl h, by simp [dgs]⟩
  | f + 1, n, h => by
    unfold dgs
    by_cases h0 : n = 0
    · subst h0
      rw [if_pos rfl]
      exact ⟨rfl, fun c h => by simp at h, fun h => absurd rfl h, by simp⟩
    · rw [if_neg h0]
      obtain ⟨h1, h2, _, h4⟩ := dgs_v f (n / 10) (by rw [Nat.pow_succ] at h; omega)
      have hc : (UInt8.ofNat (48 + n % 10)).toNat = 48 + n % 10 := by
        rw [UInt8.toNat_ofNat']
        omega
      refine ⟨by rw [dV_snoc, h1, hc]; omega, fun c hc' => ?_, fun _ => by simp, by simp; omega⟩
      rcases List.mem_append.1 hc' with q | q
      · exact h2 c q
      · simp only [List.mem_singleton] at q
        subst q
        rw [hc]
        simp [digitB]
        omega
theorem sc_num {v : Int} (h : NumOk v) : Sc (dgT v ++ [32]) [tV v] := by
  obtain ⟨h1, h2⟩ := h
  refine .one ?_
  unfold dgT
  split
  · obtain rfl : v = 0 := by omega
    exact .num (by simp) (fun c hc => by simp at hc; subst hc; decide) (by decide) (by omega)
  · obtain ⟨d1, d2, d3, _⟩ := dgs_v 20 v.toNat (by omega)
    exact .num (d3 (by omega)) d2 (by rw [d1]; omega) (by omega)
theorem sc_wr {lv : Nat} {e : Exp} (h : Sc (prB e ++ [32]) (tB e)) : Sc (wrL (decide (pwE e < lv)) (prB e) ++ [32]) (br lv e (tB e)) := by
  unfold wrL br
  by_cases hw : pwE e < lv
  · rw [if_pos (by simpa using hw), if_pos hw]
    exact (sc17.app (h.app sc18)).cat .nil (by simp) (by simp)
  · rw [if_neg (by simpa using hw), if_neg hw]
    exact h
theorem pow_in {k : Int} (h : 1 ≤ pow k) : 26 ≤ k ∧ k ≤ 38 := by
  unfold pow at h
  (repeat' split at h) <;> omega
mutual
theorem sc_B : (e : Exp) → {lv d : Nat} → NE e → OkE lv d e → Sc (prB e ++ [32]) (tB e)
  | .num v p, _, _, hn, _ => by simp only [NE] at hn; simp only [prB, tB]; exact sc_num hn
  | .boo v p, _, _, _, _ => by
    simp only [prB, tB]
    by_cases h : v = 0
    · rw [if_pos h, if_pos h]; exact sc11
    · rw [if_neg h, if_neg h]; exact sc10
  | .var s p, _, _, hn, _ => by simp only [NE] at hn; simp only [prB, tB]; exact .id hn
  | .rd p, _, _, _, _ => by simp only [prB, tB]; exact sc14.app (sc17.app sc18)
  | .call s p gs, _, _, hn, ho => by
    simp only [NE] at hn
    simp only [OkE] at ho
    simp only [prB, tB]
    exact (Sc.id hn.1).cat (sc17.app ((sc_L gs hn.2 ho.2).app sc18)) (by simp) (by simp)
  | .idx p a b, _, _, hn, ho => by
    simp only [NE] at hn
    simp only [OkE] at ho
    simp only [prB, tB]
    exact (sc_wr (lv := 7) (sc_B a hn.1 ho.2.1)).cat (sc21.app ((sc_B b hn.2 ho.2.2).app sc22)) (by simp) (by simp)
  | .new t p e, _, _, hn, ho => by
    simp only [NE] at hn
    simp only [OkE] at ho
    simp only [prB, tB]
    exact sc12.cat ((sc_ty ho.1).app (sc17.app ((sc_B e hn ho.2.2).app sc18))) (by simp) (by simp)
  | .len p e, _, _, hn, ho => by
    simp only [NE] at hn
    simp only [OkE] at ho
    simp only [prB, tB]
    exact sc13.cat (sc17.app ((sc_B e hn ho.2).app sc18)) (by simp) (by simp)
  | .un k p e, lv, d, hn, ho => by
    simp only [NE] at hn
    simp only [OkE] at ho
    simp only [prB, tB]
    have he : ∃ lv d, OkE lv d e := by
      have := ho.2
      split at this
      · exact ⟨_, _, this.2⟩
      · exact ⟨_, _, this.2⟩
    obtain ⟨_, _, he⟩ := he
    exact (Sc.kwI k (by omega) (by omega)).cat (sc_wr (lv := 6) (sc_B e hn he)) (by simp) (by simp)
  | .bin k p l r, lv, d, hn, ho => by
    simp only [NE] at hn
    simp only [OkE] at ho
    simp only [prB, tB]
    have hk := pow_in ho.1
    have he : ∃ lv d lv' d', OkE lv d l ∧ OkE lv' d' r := by
      have := ho.2
      split at this
      · exact ⟨_, _, _, _, this.2.1, this.2.2⟩
      · exact ⟨_, _, _, _, this.1, this.2⟩
    obtain ⟨_, _, _, _, hl, hr⟩ := he
    exact (sc_wr (lv := pow k) (sc_B l hn.1 hl)).cat ((Sc.kwI k (by omega) (by omega)).app (sc_wr (lv := pow k + 1) (sc_B r hn.2 hr))) (by simp) (by simp)
theorem sc_L : (es : Exps) → {d : Nat} → NEs es → OkEs d es → Sc (prL es ++ [32]) (tEs es)
  | .nil, _, _, _ => by simp only [prL, tEs]; exact .sp .nil
  | .cons e es, _, hn, ho => by
    simp only [NEs] at hn
    simp only [OkEs] at ho
    simp only [prL, tEs]
    have hR := sc_R es hn.2 ho.2
    have hB := sc_B e hn.1 ho.1
    cases hes : es with
    | nil => simp only [prR, tEr, List.append_nil]; exact hB
    | cons x xs =>
      rw [hes] at hR
      have hR := hR (by simp)
      exact hB.cat hR (by simp only [prR]; simp) (by simp)
/-- The rest of the arguments, without its first blank. -/
theorem sc_R : (es : Exps) → {d : Nat} → NEs es → OkEs d es → es ≠ .nil → Sc ((prR es).drop 1 ++ [32]) (tEr es)
  | .nil, _, _, _, h => absurd rfl h
  | .cons e es, _, hn, ho, _ => by
    simp only [NEs] at hn
    simp only [OkEs] at ho
    simp only [prR, tEr]
    have hR := sc_R es hn.2 ho.2
    have hB := sc_B e hn.1 ho.1
    cases hes : es with
    | nil => simp only [prR, tEr, List.append_nil]; exact sc23.cat hB (by simp) (by simp)
    | cons x xs =>
      rw [hes] at hR
      have hR := hR (by simp)
      exact sc23.cat (hB.app hR) (by simp only [prR]; simp) (by simp)
end
mutual
theorem sc_S : (s : Stm) → {d : Nat} → NS s → OkS d s → Sc (prS s) (tS s)
  | .vd s p t e, _, hn, ho => by
    simp only [NS] at hn
    simp only [OkS] at ho
    simp only [prS, tS]
    exact sc4.cat ((Sc.id hn.1).app ((sc_ty ho.1).app (sc25.app ((sc_B e hn.2 ho.2).app sc24)))) (by simp) (by simp)
  | .asg p a b, _, hn, ho => by
    simp only [NS] at hn
    simp only [OkS] at ho
    simp only [prS, tS]
    exact (sc_B a hn.1 ho.2.1).cat (sc25.app ((sc_B b hn.2 ho.2.2).app sc24)) (by simp) (by simp)
  | .iff p e bp b, _, hn, ho => by
    simp only [NS] at hn
    simp only [OkS] at ho
    simp only [prS, tS]
    exact sc5.cat ((sc_B e hn.1 ho.1).app (sc19.app ((sc_Ss b hn.2 ho.2.2).app sc20))) (by simp) (by simp)
  | .ife p e bp b cp c, _, hn, ho => by
    simp only [NS] at hn
    simp only [OkS] at ho
    simp only [prS, tS]
    exact sc5.cat ((sc_B e hn.1 ho.1).app ((sc19.app ((sc_Ss b hn.2.1 ho.2.2.1).app sc20)).app (sc6.app (sc19.app ((sc_Ss c hn.2.2 ho.2.2.2).app sc20))))) (by simp) (by simp)
  | .whl p e bp b, _, hn, ho => by
    simp only [NS] at hn
    simp only [OkS] at ho
    simp only [prS, tS]
    exact sc7.cat ((sc_B e hn.1 ho.1).app (sc19.app ((sc_Ss b hn.2 ho.2.2).app sc20))) (by simp) (by simp)
  | .ret p e, _, hn, ho => by
    simp only [NS] at hn
    simp only [OkS] at ho
    simp only [prS, tS]
    exact sc8.cat ((sc_B e hn ho).app sc24) (by simp) (by simp)
  | .prt p e, _, hn, ho => by
    simp only [NS] at hn
    simp only [OkS] at ho
    simp only [prS, tS]
    exact sc9.cat ((sc_B e hn ho).app sc24) (by simp) (by simp)
  | .exp e, _, hn, ho => by
    simp only [NS] at hn
    simp only [OkS] at ho
    simp only [prS, tS]
    exact (sc_B e hn ho).cat sc24 (by simp) (by simp)
theorem sc_Ss : (ss : Stms) → {d : Nat} → NSs ss → OkSs d ss → Sc (prSs ss) (tSs ss)
  | .nil, _, _, _ => by simp only [prSs, tSs]; exact .nil
  | .cons s ss, _, hn, ho => by
    simp only [NSs] at hn
    simp only [OkSs] at ho
    simp only [prSs, tSs]
    exact (sc_S s hn.1 ho.1).app (sc_Ss ss hn.2 ho.2)
end
theorem sc_Pr : ∀ (xs : List Prm), (∀ x ∈ xs, IdOk x.s) → (∀ x ∈ xs, OkP x) → Sc (prPr xs) (tPr xs)
  | [], _, _ => .nil
  | x :: r, hn, ho => by
    simp only [prPr, tPr, prP1]
    exact sc23.cat ((Sc.id (hn x (by simp))).app ((sc_ty (ho x (by simp))).app (sc_Pr r (fun y hy => hn y (by simp [hy])) (fun y hy => ho y (by simp [hy]))))) (by simp) (by simp)
theorem sc_Ps (xs : List Prm) (hn : ∀ x ∈ xs, IdOk x.s) (ho : ∀ x ∈ xs, OkP x) : Sc (prPs xs) (tPs xs) := by
  cases xs with
  | nil => exact .nil
  | cons x r =>
    simp only [prPs, tPs, prP1]
    exact (Sc.id (hn x (by simp))).cat ((sc_ty (ho x (by simp))).app (sc_Pr r (fun y hy => hn y (by simp [hy])) (fun y hy => ho y (by simp [hy])))) (by simp) (by simp)
theorem sc_F (f : Fnc) (hn : NFn f) (ho : OkF f) : Sc (prF f) (tF f) := by
  obtain ⟨n1, n2, n3⟩ := hn
  obtain ⟨o1, o2, o3⟩ := ho
  unfold prF tF prBl tBl
  exact sc3.cat ((Sc.id n1).app (sc17.app ((sc_Ps f.ps n2 o2).app (sc18.app ((sc_ty o1).app (sc19.app ((sc_Ss f.ss n3 o3).app sc20))))))) (by simp) (by simp)
theorem sc_Fs : ∀ (fs : List Fnc), (∀ f ∈ fs, NFn f) → (∀ f ∈ fs, OkF f) → Sc (prFs fs) (tFs fs)
  | [], _, _ => .nil
  | f :: r, hn, ho => (sc_F f (hn f (by simp)) (ho f (by simp))).app (sc_Fs r (fun y hy => hn y (by simp [hy])) (fun y hy => ho y (by simp [hy])))
end Go.Proofs.Qxb6500280a
