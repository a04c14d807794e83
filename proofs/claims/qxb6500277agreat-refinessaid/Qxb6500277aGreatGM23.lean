/- The definitional interpreter: exec whole. -/
import Derived.Test.Qxb6500277aGreatGM16
import Derived.Test.Qxb6500277aGreatGM18
import Derived.Test.Qxb6500277aGreatGM19
import Derived.Test.Qxb6500277aGreatGM20
import Derived.Test.Qxb6500277aGreatGM21
import Derived.Test.Qxb6500277aGreatGM22
namespace Go.Proofs.Qxb6500277aGreat
open Go Go.RowKit

theorem xeC {G : Gmx} (K : G.Ok) {fm : Int} (J : InvC G fm) : ∀ n, XeC G fm n
  | 0 => ⟨fun x hx => absurd hx (by have := szS_pos x; omega), fun ss hn => absurd hn (by omega)⟩
  | n + 1 => by
    have I := evC K J n
    have X := xeC K J n
    refine ⟨fun x hx w Q s b nx li lr lv ret E hf L W => ?_, fun ss hn w Q s b k p li lr lv ret E hf L hN W => ex_block X ss (by omega) E hf L hN W⟩
    cases x with
    | vd nm p o e => simp only [szS] at hx; exact ex_vd K I nm p o e (by omega) E hf L W
    | ret p e => simp only [szS] at hx; exact ex_ret I p e (by omega) E hf L W
    | prt p e => simp only [szS] at hx; exact ex_prt I p e (by omega) E hf L W
    | exp e => simp only [szS] at hx; exact ex_exp K I e (by omega) E hf L W
    | iff p e bp ss =>
      have := szE_pos e
      simp only [szS] at hx
      exact ex_iff I X p e bp ss (by omega) (by omega) E hf L W
    | ife p e bp ss cp cs =>
      have := szE_pos e
      simp only [szS] at hx
      exact ex_ife I X p e bp ss cp cs (by omega) (by omega) (by omega) E hf L W
    | whl p e bp ss =>
      have := szE_pos e
      simp only [szS] at hx
      exact ex_whl I X p e bp ss (by omega) (by omega) E hf L W
    | asg p a c =>
      have h1 := szE_pos a
      have h2 := szE_pos c
      simp only [szS] at hx
      cases a with
      | var nm q => exact ex_asgv K I p nm q c (by omega) E hf L W
      | idx q a i =>
        have h3 := szE_pos a
        have h4 := szE_pos i
        simp only [szE] at hx
        by_cases ht : 2 ≤ tyA G.P0 (rtN (b + (szE a + szE i + 1)) c)
        · exact ex_asgr K I p q a i c (by omega) (by omega) (by omega) E hf ht L W
        · exact ex_asgi K I p q a i c (by omega) (by omega) (by omega) E hf (by omega) L W
      | _ => exact W.elim
end Go.Proofs.Qxb6500277aGreat
