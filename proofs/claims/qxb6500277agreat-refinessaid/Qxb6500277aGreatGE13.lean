/- The code generator: expr whole. -/
import Derived.Test.Qxb6500277aGreatGE12
namespace Go.Proofs.Qxb6500277aGreat
open Go Go.RowKit

theorem exG {G : Ge} (o : G.Ok) : ∀ n, ExG G n
  | 0 => fun e hn => by have := szE_pos e; omega
  | n + 1 => fun e hn ht w P B b nx x h hc L hx W hl => by
    have I := exG o n
    cases e with
    | num v p => exact expr_num v p h hc L hx hl
    | boo v p => exact expr_boo v p h hc L hx hl
    | rd p => exact expr_rd p h hc L hx hl
    | var s p => exact expr_var o s p h hc L hx W hl
    | un k p e => simp only [szE] at hn; simp only [TyE] at ht; exact expr_un I k p e (by omega) ht h hc L hx W hl
    | len p e => simp only [szE] at hn; simp only [TyE] at ht; exact expr_len I p e (by omega) ht h hc L hx W hl
    | new t p e => simp only [szE] at hn; simp only [TyE] at ht; exact expr_new I t p e (by omega) ht.2 ht.1 h hc L hx W hl
    | idx p e i => simp only [szE] at hn; simp only [TyE] at ht; exact expr_idx I p e i (by omega) ht.1 (by omega) ht.2 h hc L hx W hl
    | bin k p l r => simp only [szE] at hn; simp only [TyE] at ht; exact expr_bin I k p l r (by omega) ht.1 (by omega) ht.2 h hc L hx W hl
    | call s p gs => simp only [szE] at hn; simp only [TyE] at ht; exact expr_call o I s p gs (by omega) ht h hc L hx W hl
theorem exprG {G : Ge} (o : G.Ok) (e : Exp) (ht : TyE e) {w : World} {P : Nat → Prop} {B : Gb} {b : Nat} {nx x : Int} (h : GX w G.g P G.hd B) (hc : G.Cv w P) (L : Lie G.ns b (flE b nx e)) (hx : x = rtE b e) (W : WtE G.P0 G.li G.lr b e) (hl : B.code.length + nE e ≤ 40000) : Calls Tryz.prog 192 #[.pointer (some ⟨G.g, 0, none⟩), .int .i64 x] w (EmR w G.g P G.hd (addE G.P0 B b e)) :=
  exG o (szE e) e (Nat.le_refl _) ht w P B b nx x h hc L hx W hl
end Go.Proofs.Qxb6500277aGreat
