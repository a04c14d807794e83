/- The code as a row of whole instructions: statements, functions, the whole. -/
import Derived.Test.Qxb6500277aGreatGK1
namespace Go.Proofs.Qxb6500277aGreat
open Go Go.RowKit

section
variable {P : Pg} {C : List Nat} {en : Nat → Nat} {li lr : Nat}
theorem sg_jz {H : Prop} {a op T : Nat} {l : List Nat} (hc : CdA C a (op :: (u16b T ++ l))) (ho : op = 21 ∨ op = 22 ∨ op = 23) (hT : ChA C a → ChA C T ∧ T < C.length ∧ (op ≠ 21 → a < T)) (h6 : T < 65536) : Sg C H en a 3 [] ∧ CdA C (a + 3) l ∧ nxt C a = a + 3 := by
  obtain ⟨d1, d2, d3⟩ := hc.hd
  obtain ⟨d4, d5⟩ := d3.app
  simp only [List.length_append, u16b, List.length_cons, List.length_nil] at d2
  refine ⟨Sg.jmp d1 ho (by omega) (d4.u16 h6) hT, d5, ?_⟩
  unfold nxt
  rw [d1]
  rcases ho with rfl | rfl | rfl <;> rfl
theorem ch_jz {a op T : Nat} {l : List Nat} (hc : CdA C a (op :: (u16b T ++ l))) (ho : op = 21 ∨ op = 22 ∨ op = 23) (h : ChA C a) : ChA C (a + 3) := by
  obtain ⟨d1, _, _⟩ := hc.hd
  have e : nxt C a = a + 3 := by
    unfold nxt
    rw [d1]
    rcases ho with rfl | rfl | rfl <;> rfl
  rw [← e]
  exact h.next
theorem CdA.tl3 {a op T : Nat} {l : List Nat} (hc : CdA C a (op :: (u16b T ++ l))) : CdA C (a + 3) l := by
  obtain ⟨_, _, d3⟩ := hc.hd
  exact d3.app.2
mutual
theorem sgS {ret : Int} (hC : C.length < 65536) (hen : ∀ f, f < P.fns.length → en f < C.length ∧ byteAt C (en f) = 25) : (x : Stm) → ∀ (a b : Nat), WtS P li lr ret b x → CdA C a (cS P en a b x) → a + nS x < C.length → Sg C (HEn P C en) en a (nS x) (fxS P a b x)
  | .vd s p t e, a, b, hw, hc, hl => by
    simp only [cS] at hc
    simp only [WtS] at hw
    simp only [nS] at hl
    obtain ⟨c1, c2⟩ := hc.app
    rw [cE_len] at c2
    simp only [fxS, nS]
    have := clsO_in (t := t) (x := 3) (y := 5) (k := 1) rfl rfl (by decide) (by decide)
    exact (sgE hC hen e a b hw.1 c1 (by omega)).suf (sg_slot c2 this.1 this.2) rfl
  | .ret p e, a, b, hw, hc, hl => by
    simp only [cS] at hc
    simp only [WtS] at hw
    simp only [nS] at hl
    obtain ⟨c1, c2⟩ := hc.app
    rw [cE_len] at c2
    simp only [fxS, nS]
    have := clsO_in (t := tyA P (rtN b e)) (x := 26) (y := 27) (k := 0) rfl rfl (by decide) (by decide)
    exact (sgE hC hen e a b hw.1 c1 (by omega)).suf (sg_op c2 this.1 this.2) rfl
  | .prt p e, a, b, hw, hc, hl => by
    simp only [cS] at hc
    simp only [WtS] at hw
    simp only [nS] at hl
    obtain ⟨c1, c2⟩ := hc.app
    rw [cE_len] at c2
    simp only [fxS, nS]
    exact (sgE hC hen e a b hw.1 c1 (by omega)).suf (sg_op c2 rfl (by decide)) rfl
  | .exp e, a, b, hw, hc, hl => by
    simp only [cS] at hc
    simp only [WtS] at hw
    simp only [nS] at hl
    obtain ⟨c1, c2⟩ := hc.app
    rw [cE_len] at c2
    simp only [fxS, nS]
    have := clsO_in (t := tyA P (rtN b e)) (x := 1) (y := 6) (k := 0) rfl rfl (by decide) (by decide)
    exact (sgE hC hen e a b hw c1 (by omega)).suf (sg_op c2 this.1 this.2) rfl
  | .asg p x c, a, b, hw, hc, hl => by
    cases x with
    | idx q y i =>
      simp only [cS] at hc
      simp only [WtS] at hw
      simp only [nS] at hl
      obtain ⟨c1, c2⟩ := hc.app
      rw [cE_len] at c2
      obtain ⟨c3, c4⟩ := c2.app
      rw [cE_len] at c4
      obtain ⟨c5, c6⟩ := c4.app
      rw [cE_len] at c6
      simp only [fxS, nS]
      have := clsO_in (t := tyA P (rtN (b + (szE y + szE i + 1)) c)) (x := 32) (y := 33) (k := 0) rfl rfl (by decide) (by decide)
      exact (sgE hC hen y a b hw.1 c1 (by omega)).app ((sgE hC hen i _ _ hw.2.1 c3 (by omega)).app ((sgE hC hen c _ _ hw.2.2.1 c5 (by omega)).suf (sg_op c6 this.1 this.2) rfl) rfl) (by omega)
    | var s q =>
      simp only [cS] at hc
      simp only [WtS] at hw
      simp only [nS] at hl
      obtain ⟨c1, c2⟩ := hc.app
      rw [cE_len] at c2
      simp only [fxS, nS]
      have := clsO_in (t := tyA P b) (x := 3) (y := 5) (k := 1) rfl rfl (by decide) (by decide)
      exact (sgE hC hen c a _ hw.1 c1 (by omega)).suf (sg_slot c2 this.1 this.2) rfl
    | _ => exact hw.elim
  | .iff p e bp ss, a, b, hw, hc, hl => by
    simp only [cS] at hc
    simp only [WtS] at hw
    simp only [nS] at hl
    obtain ⟨c1, c2⟩ := hc.app
    rw [cE_len] at c2
    have c3 := c2.tl3
    simp only [fxS, nS]
    have S3 := sgSs hC hen ss (a + nE e + 3) (b + szE e) hw.2.2 c3 (by omega)
    have S2 := (sg_jz (H := HEn P C en) (en := en) c2 (.inr (.inl rfl)) (fun hch => ⟨S3.sq (ch_jz c2 (.inr (.inl rfl)) hch), by omega, fun _ => by omega⟩) (by omega)).1
    exact (sgE hC hen e a b hw.1 c1 (by omega)).app (S2.app S3 rfl) (by omega)
  | .ife p e bp ss cp cs, a, b, hw, hc, hl => by
    simp only [cS] at hc
    simp only [WtS] at hw
    simp only [nS] at hl
    obtain ⟨c1, c2⟩ := hc.app
    rw [cE_len] at c2
    have c3 := c2.tl3
    obtain ⟨c4, c5⟩ := c3.app
    rw [cSs_len] at c5
    have c6 := c5.tl3
    simp only [fxS, nS]
    have S3 := sgSs hC hen ss (a + nE e + 3) (b + szE e) hw.2.2.1 c4 (by omega)
    have S5 := sgSs hC hen cs (a + nE e + 3 + nSs ss + 3) (b + szE e + (szSs ss + 1)) hw.2.2.2 c6 (by omega)
    have S4 := (sg_jz (H := HEn P C en) (en := en) c5 (.inl rfl) (fun hch => ⟨S5.sq (ch_jz c5 (.inl rfl) hch), by omega, fun h => absurd rfl h⟩) (by omega)).1
    have S2 := (sg_jz (H := HEn P C en) (en := en) c2 (.inr (.inl rfl)) (fun hch => ⟨S4.sq (S3.sq (ch_jz c2 (.inr (.inl rfl)) hch)), by omega, fun _ => by omega⟩) (by omega)).1
    exact (sgE hC hen e a b hw.1 c1 (by omega)).app (S2.app (S3.app (S4.app S5 rfl) rfl) rfl) (by omega)
  | .whl p e bp ss, a, b, hw, hc, hl => by
    simp only [cS] at hc
    simp only [WtS] at hw
    simp only [nS] at hl
    obtain ⟨c1, c2⟩ := hc.app
    rw [cE_len] at c2
    have c3 := c2.tl3
    obtain ⟨c4, c5⟩ := c3.app
    rw [cSs_len] at c5
    rw [← List.append_nil (u16b a)] at c5
    simp only [fxS, nS]
    refine Sg.of fun h0 => ?_
    have S3 := sgSs hC hen ss (a + nE e + 3) (b + szE e) hw.2.2 c4 (by omega)
    have S4 := (sg_jz (H := HEn P C en) (en := en) c5 (.inl rfl) (fun _ => ⟨h0, by omega, fun h => absurd rfl h⟩) (by omega)).1
    have S2 := (sg_jz (H := HEn P C en) (en := en) c2 (.inr (.inl rfl)) (fun hch => ⟨S4.sq (S3.sq (ch_jz c2 (.inr (.inl rfl)) hch)), by omega, fun _ => by omega⟩) (by omega)).1
    exact (sgE hC hen e a b hw.1 c1 (by omega)).app (S2.app (S3.suf S4 rfl) rfl) (by omega)
theorem sgSs {ret : Int} (hC : C.length < 65536) (hen : ∀ f, f < P.fns.length → en f < C.length ∧ byteAt C (en f) = 25) : (xs : Stms) → ∀ (a b : Nat), WtSs P li lr ret b xs → CdA C a (cSs P en a b xs) → a + nSs xs < C.length → Sg C (HEn P C en) en a (nSs xs) (fxSs P a b xs)
  | .nil, a, b, hw, hc, hl => Sg.nil
  | .cons x xs, a, b, hw, hc, hl => by
    simp only [cSs] at hc
    simp only [WtSs] at hw
    simp only [nSs] at hl
    obtain ⟨c1, c2⟩ := hc.app
    rw [cS_len] at c2
    simp only [fxSs, nSs]
    exact (sgS hC hen x a b hw.1 c1 (by omega)).app (sgSs hC hen xs _ _ hw.2 c2 (by omega)) rfl
end
theorem sgF {F : Fi} (hC : C.length < 65536) (hen : ∀ f, f < P.fns.length → en f < C.length ∧ byteAt C (en f) = 25) (a : Nat) (hw : WtSs P F.li F.lr F.ret F.bb F.ss) (hc : CdA C a (cF P en a F)) : Sg C (HEn P C en) en a (nF F) (fxSs P (a + 5) F.bb F.ss) := by
  have hlen := hc.1
  rw [cF_len] at hlen
  unfold cF at hc
  obtain ⟨c1, c2⟩ := hc.app
  obtain ⟨c3, c4⟩ := c2.app
  rw [cSs_len] at c4
  obtain ⟨d1, d2, _⟩ := c1.hd
  simp only [List.length_cons, List.length_nil] at d2 c3 c4
  have hn : nF F = 5 + nSs F.ss + (if 2 ≤ F.ret then 2 else 10) := rfl
  have S1 : Sg C (HEn P C en) en a 5 [] := Sg.nop (k := 4) d1 rfl (by omega) (by decide) rfl
  have S2 := sgSs hC hen F.ss (a + 5) F.bb hw c3 (by split at hn <;> omega)
  have S3 : Sg C (HEn P C en) en (a + 5 + nSs F.ss) (if 2 ≤ F.ret then 2 else 10) [] := by
    unfold tailC at c4
    split at c4
    · rename_i h
      rw [if_pos h]
      obtain ⟨_, _, e3⟩ := c4.hd
      exact (sg_op c4 rfl (by decide)).app (l := []) (l' := []) (sg_op e3 rfl (by decide)) rfl
    · rename_i h
      rw [if_neg h]
      obtain ⟨_, _, e3⟩ := c4.hd
      have e4 := e3.app.2
      have el : (i64b 0).length = 8 := rfl
      rw [el] at e4
      exact (sg_push c4).app (l := []) (l' := []) (sg_op (a := a + 5 + nSs F.ss + 9) e4 rfl (by decide)) rfl
  have Z := S1.app (S2.suf S3 rfl) (n' := nF F) (by rw [hn]; omega)
  exact Z
theorem sgL (hC : C.length < 65536) (hen : ∀ f, f < P.fns.length → en f < C.length ∧ byteAt C (en f) = 25) : ∀ (l : List Nat) (a : Nat), (∀ i ∈ l, WtSs P (fiA P i).li (fiA P i).lr (fiA P i).ret (fiA P i).bb (fiA P i).ss) → CdA C a (cdL P en l a) → Sg C (HEn P C en) en a (sumF P l) (fxL P l a) ∧ (ChA C a → ∀ i ∈ l, ChA C (enO P l a i))
  | [], a, _, _ => ⟨Sg.nil, fun _ i hi => by cases hi⟩
  | j :: l, a, hw, hc => by
    simp only [cdL] at hc
    obtain ⟨c1, c2⟩ := hc.app
    rw [cF_len] at c2
    have S1 := sgF hC hen a (hw j (by simp)) c1
    obtain ⟨S2, S3⟩ := sgL hC hen l _ (fun i hi => hw i (by simp [hi])) c2
    have e : sumF P (j :: l) = nF (fiA P j) + sumF P l := by simp [sumF]
    refine ⟨by simp only [fxL]; exact S1.app S2 e, fun h i hi => ?_⟩
    simp only [enO]
    split
    · exact h
    · rename_i hne
      exact S3 (S1.sq h) i ((List.mem_cons.1 hi).resolve_left hne)
end
/-- The whole code as Check wants it. -/
structure CkOk (C : List Nat) (en : Nat → Nat) (n : Nat) (l : List (Nat × Nat)) : Prop where
  fin : ∀ pc, pc < C.length → ChA C pc → Fin1 C pc
  end' : ChA C C.length
  rw' : Rw C en l
  rn : ∀ x ∈ l, x.2 < n
  en' : ∀ i, i < n → ChA C (en i) ∧ en i < C.length ∧ byteAt C (en i) = 25
theorem ProgOk.ck {P : Pg} {m : Nat} (h : ProgOk P (codeP P m) (enP P m) m) : CkOk (codeP P m) (enP P m) P.fns.length (fxL P (ordL P.fns.length m) 0) := by
  have hw : ∀ i ∈ ordL P.fns.length m, WtSs P (fiA P i).li (fiA P i).lr (fiA P i).ret (fiA P i).bb (fiA P i).ss := fun i hi => (h.ok.fn i (ord_lt h.mn hi)).2.2.2
  have hen : ∀ f, f < P.fns.length → enP P m f < (codeP P m).length ∧ byteAt (codeP P m) (enP P m f) = 25 := fun f hf => by
    have q := (h.ok.fn f hf).2.2.1
    unfold cF at q
    obtain ⟨q1, _⟩ := q.app
    obtain ⟨d1, d2, _⟩ := q1.hd
    exact ⟨by omega, d1⟩
  have hs : (codeP P m).length = sumF P (ordL P.fns.length m) := sumF_cdL P _ _ _
  obtain ⟨S1, S2⟩ := sgL h.ok.len hen (ordL P.fns.length m) 0 hw (CdA.whole _)
  have hH : HEn P (codeP P m) (enP P m) := fun f hf => S2 (ChA.zero _) f (mem_ord hf)
  obtain ⟨f1, f2⟩ := S1.fz (ChA.zero _) hH
  have hr := row_L (ordL P.fns.length m) 0 hw
  refine ⟨fun pc hp hc => f1 pc (by omega) (by omega) hc, ?_, f2, fun x hx => (hr x hx).2.2, fun i hi => ⟨hH i hi, hen i hi⟩⟩
  have := S1.sq (ChA.zero _)
  rw [Nat.zero_add, ← hs] at this
  exact this
end Go.Proofs.Qxb6500277aGreat
