/- node, whole. -/
import Derived.Test.Qxb6500283aGreatY6a
import Derived.Test.Qxb6500283aGreatY6b
import Derived.Test.Qxb6500283aGreatY6c
import Derived.Test.Qxb6500283aGreatPL8
namespace Go.Proofs.Qxb6500283aGreat
open Go Go.RowKit

theorem nodeB_any {D : Nat → Prop} {w : World} {r bk cp : Nat} {cl : List Nd} {code : List In} {T : List Wk} (hM : BMem D w r (.slice (some ⟨bk, 0, none⟩) cl.length cp) code T.reverse) (hD : ∀ b, w.heap.size ≤ b → D b) (hN : NPAt w bk cl) (hO : NdsOk cl) {n : Nat} (hn : n < cl.length)
    (hc : code.length ≤ 200) (ht : T.length ≤ 200) :
    Calls Tryz.prog 123 #[.pointer (some ⟨r, 0, none⟩), .int .i64 (n : Nat)] w fun v w' => v = .returned (.tuple #[]) ∧ BMem D w' r (.slice (some ⟨bk, 0, none⟩) cl.length cp) (nodeP cl n code T).1 (nodeP cl n code T).2.reverse ∧ Fr D w w' := by
  obtain ⟨hok, hcap⟩ := hO n hn
  have hg := List.getElem?_eq_getElem hn
  generalize cl[n] = x at *
  obtain ⟨kind, a, b, mn, mx, cap, lz, st⟩ := x
  simp only at hok hcap
  rcases hok with ⟨hk, h1, h2⟩ | ⟨hk, h1, h2, h3, h4⟩ | ⟨hk, h1, h2, h3⟩
  · simp only at hk h1 h2
    subst h1 h2
    rcases hk with rfl | rfl | rfl | rfl
    · exact nodeB_emp hM hN cap mn mx lz st hg
    · exact nodeB_set hM hD hN cap mn mx lz st hg hc
    · exact nodeB_bol hM hD hN cap mn mx lz st hg hc
    · exact nodeB_eol hM hD hN cap mn mx lz st hg hc
  · simp only at hk h1 h2 h3 h4
    obtain ⟨A, rfl⟩ : ∃ A : Nat, a = A := ⟨a.toNat, by omega⟩
    obtain ⟨B, rfl⟩ : ∃ B : Nat, b = B := ⟨b.toNat, by omega⟩
    rcases hk with rfl | rfl
    · exact nodeB_cat hM hD hN A B cap mn mx lz st hg ht
    · exact nodeB_alt hM hD hN A B cap mn mx lz st hg hc ht
  · simp only at hk h1 h2 h3
    obtain ⟨A, rfl⟩ : ∃ A : Nat, a = A := ⟨a.toNat, by omega⟩
    subst h3
    rcases hk with rfl | rfl
    · cases lz with
      | false => exact nodeB_repg hM hD hN A cap mn mx st hg hc ht
      | true => exact nodeB_repl hM hD hN A cap mn mx st hg hc ht
    · obtain ⟨h5, h6⟩ := hcap rfl
      obtain ⟨c, rfl⟩ : ∃ c : Nat, cap = c := ⟨cap.toNat, by omega⟩
      exact nodeB_grp hM hD hN A c mn mx lz st hg hc ht (by omega)
end Go.Proofs.Qxb6500283aGreat
