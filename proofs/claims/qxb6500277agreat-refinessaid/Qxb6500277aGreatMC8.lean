/- The model checker: all expressions. -/
import Derived.Test.Qxb6500277aGreatMC5a
import Derived.Test.Qxb6500277aGreatMC5b
import Derived.Test.Qxb6500277aGreatMC6
import Derived.Test.Qxb6500277aGreatMC7
namespace Go.Proofs.Qxb6500277aGreat
open Go Go.RowKit

section
variable {w w' : World} {B : Nat} {A : Ma} {X : Cx} {cur : Nat} {s : Ck} {er po : Int} {fv vv : Value} {n : Nat}
theorem emAll (B : Nat) (A : Ma) (X : Cx) (cur : Nat) (fv vv : Value) (hPC : PCh X A.ns) : ∀ n, ExM B A X cur n fv vv
  | 0 => fun e hn _ => by have := szE_pos e; omega
  | n + 1 => fun e hn ht w s b nx x H L hx => by
    have I := emAll B A X cur fv vv hPC n
    cases e with
    | num v p => exact em_num H L hx
    | boo v p => exact em_boo H L hx
    | var nm p => exact em_var H L hx
    | rd p => exact em_rd H L hx
    | call nm p gs =>
      simp only [szE] at hn; simp only [TyE] at ht
      exact em_call I hPC H L ht (by omega) hx
    | idx p a c =>
      simp only [szE] at hn; simp only [TyE] at ht
      exact em_idx I H L ht.1 ht.2 (by omega) hx
    | new t p e =>
      simp only [szE] at hn; simp only [TyE] at ht
      exact em_new I H L ht.2 (by omega) hx
    | len p e =>
      simp only [szE] at hn; simp only [TyE] at ht
      exact em_len I H L ht (by omega) hx
    | un k p e =>
      simp only [szE] at hn; simp only [TyE] at ht
      exact em_un I H L ht (by omega) hx
    | bin k p l r =>
      simp only [szE] at hn; simp only [TyE] at ht
      have hs : szE l + szE r ≤ n := by omega
      by_cases h38 : k = 38
      · exact em_bin38 I H L ht.1 ht.2 hs hx h38
      by_cases h37 : k = 37
      · exact em_bin37 I H L ht.1 ht.2 hs hx h37
      by_cases h28 : k = 28
      · exact em_bin28 I H L ht.1 ht.2 hs hx h28
      by_cases h29 : k = 29
      · exact em_bin29 I H L ht.1 ht.2 hs hx h29
      by_cases h30 : k = 30
      · exact em_bin30 I H L ht.1 ht.2 hs hx h30
      by_cases h31 : k = 31
      · exact em_bin31 I H L ht.1 ht.2 hs hx h31
      by_cases h26 : k = 26
      · exact em_bin26 I H L ht.1 ht.2 hs hx h26
      by_cases h27 : k = 27
      · exact em_bin27 I H L ht.1 ht.2 hs hx h27
      exact em_binO I H L ht.1 ht.2 hs hx ⟨h38, h37, h28, h29, h30, h31, h26, h27⟩
theorem exMA (hPC : PCh X A.ns) (e : Exp) (ht : TyE e) (H : MXc w B A X cur s 0 0 fv vv) {b : Nat} {nx x : Int} (L : Lie A.ns b (flE b nx e)) (hx : x = rtE b e) : Calls Tryz.prog 177 #[.pointer (some ⟨A.m, 0, none⟩), .int .i64 x] w (EMP w B A X cur s fv vv (ckE X b e s)) := emAll B A X cur fv vv hPC _ e (Nat.le_refl _) ht w s b nx x H L hx
theorem isMA (hPC : PCh X A.ns) (e : Exp) (ht : TyE e) (H : MXc w B A X cur s 0 0 fv vv) {b : Nat} {nx x : Int} (L : Lie A.ns b (flE b nx e)) (hx : x = rtE b e) (t : Int) : Calls Tryz.prog 176 #[.pointer (some ⟨A.m, 0, none⟩), .int .i64 x, .int .i64 t] w (IMP w B A X cur s fv vv (wantE X b e t s)) := isM (emAll B A X cur fv vv hPC _) e (Nat.le_refl _) ht H L hx t
end
end Go.Proofs.Qxb6500277aGreat
