/- The real checker: the end of a check in memory. -/
import Derived.Test.Qxb6500277aGreatCB8a
namespace Go.Proofs.Qxb6500277aGreat
open Go Go.RowKit

def nil3 (w : World) (c : Nat) : World := ((w.setCell ⟨c, 415, none⟩ (.slice none 0 0)).setCell ⟨c, 416, none⟩ (.slice none 0 0)).setCell ⟨c, 417, none⟩ (.slice none 0 0)
theorem Fr.nil3 {S : Nat → Prop} {a w : World} {c : Nat} (h : Fr S a w) (hc : c < a.heap.size → S c) : Fr S a (Go.Proofs.Qxb6500277aGreat.nil3 w c) := ((h.setC c 415 _ hc).setC c 416 _ hc).setC c 417 _ hc
/-- How a check has come from its start to its end. -/
structure Way (w w1 w6 w9 : World) (c p nb tb ox : Nat) (Op O' : Nat → Prop) (ns : List Nd) : Prop where
  k0 : Fr (fun _ => False) w (w.alloc box10)
  f1 : Fr Op (w.alloc box10) w1
  f16 : Fr (fun d => d = c) w1 w6
  f69 : Fr (CS ⟨c, p, nb, tb, tb + 1, ns⟩) w6 w9
  hw1 : w.heap.size < w1.heap.size
  htb : w1.heap.size < tb
  hox : tb + 2 ≤ ox
  hO' : ∀ d, O' d → Op d ∨ (w.alloc box10).heap.size ≤ d
  hOl : ∀ d, O' d → d < w1.heap.size
  hcO : ¬ O' c
  hlt : c < w.heap.size
  hOw : ∀ d, Op d → d < w.heap.size
section
variable {w w1 w6 w9 : World} {c p nb tb ox : Nat} {Op O' : Nat → Prop} {ns : List Nd}
theorem Way.fr (h : Way w w1 w6 w9 c p nb tb ox Op O' ns) : Fr (fun d => d = c ∨ Op d) w w9 :=
  (((h.k0.mono (S' := fun d => d = c ∨ Op d) (fun _ _ h => h.elim)).trans h.f1 (fun _ _ h => .inr h)).trans h.f16 (fun _ _ h => .inl h)).trans h.f69 (fun d hd hc => by
    have h1 := h.hw1
    have h2 := h.htb
    rcases hc with hc | hc | hc
    · exact .inl hc
    · simp only at hc; omega
    · simp only at hc; omega)
theorem Way.end (h : Way w w1 w6 w9 c p nb tb ox Op O' ns) (hnx : nb ≠ ox) {X : Cx} {cur : Nat} {s : Ck} {e q : Int} {tx : Nat} {v : Value} {root : Int} (C : CM w9 ⟨c, p, nb, tb, tb + 1, ns⟩ X cur s e q) (S : Sd w9 p w.heap.size tx ox O' v root) (a0 a1 a2 a3 a4 a5 a6 a7 a8 a9 b0 b1 b2 b3 b4 b5 b6 b7 b8 b9 : Value) :
    RIx (set10 (nil3 (set10 w9 ox a0 a1 a2 a3 a4 a5 a6 a7 a8 a9) c) w.heap.size b0 b1 b2 b3 b4 b5 b6 b7 b8 b9) p O' ∧ (∀ b, O' b → Op b ∨ w.heap.size ≤ b) ∧ CI (set10 (nil3 (set10 w9 ox a0 a1 a2 a3 a4 a5 a6 a7 a8 a9) c) w.heap.size b0 b1 b2 b3 b4 b5 b6 b7 b8 b9) c p ∧
    Fr (fun d => d = c ∨ Op d) w (set10 (nil3 (set10 w9 ox a0 a1 a2 a3 a4 a5 a6 a7 a8 a9) c) w.heap.size b0 b1 b2 b3 b4 b5 b6 b7 b8 b9) ∧ Blk (set10 (nil3 (set10 w9 ox a0 a1 a2 a3 a4 a5 a6 a7 a8 a9) c) w.heap.size b0 b1 b2 b3 b4 b5 b6 b7 b8 b9) w.heap.size 10 (c10 b0 b1 b2 b3 b4 b5 b6 b7 b8 b9) ∧
    Fr (fun d => d = c ∨ d = ox ∨ d = w.heap.size) w9 (set10 (nil3 (set10 w9 ox a0 a1 a2 a3 a4 a5 a6 a7 a8 a9) c) w.heap.size b0 b1 b2 b3 b4 b5 b6 b7 b8 b9) := by
  have h1 := h.hw1
  have h2 := h.htb
  have h3 := h.hox
  have h4 := h.hlt
  have hs : (w.alloc box10).heap.size = w.heap.size + 1 := by simp [World.size_alloc]
  have g1 : Fr (fun d => d = ox) w9 (set10 w9 ox a0 a1 a2 a3 a4 a5 a6 a7 a8 a9) := (Fr.refl (fun d => d = ox) w9).set10 (b := ox) (fun _ => rfl) a0 a1 a2 a3 a4 a5 a6 a7 a8 a9
  have g2 : Fr (fun d => d = c) (set10 w9 ox a0 a1 a2 a3 a4 a5 a6 a7 a8 a9) (nil3 (set10 w9 ox a0 a1 a2 a3 a4 a5 a6 a7 a8 a9) c) := (Fr.refl (fun d => d = c) _).nil3 (fun _ => rfl)
  have g3 : Fr (fun d => d = w.heap.size) (nil3 (set10 w9 ox a0 a1 a2 a3 a4 a5 a6 a7 a8 a9) c) (set10 (nil3 (set10 w9 ox a0 a1 a2 a3 a4 a5 a6 a7 a8 a9) c) w.heap.size b0 b1 b2 b3 b4 b5 b6 b7 b8 b9) := (Fr.refl (fun d => d = w.heap.size) _).set10 (b := w.heap.size) (fun _ => rfl) b0 b1 b2 b3 b4 b5 b6 b7 b8 b9
  have G : Fr (fun d => d = c ∨ d = ox ∨ d = w.heap.size) w9 (set10 (nil3 (set10 w9 ox a0 a1 a2 a3 a4 a5 a6 a7 a8 a9) c) w.heap.size b0 b1 b2 b3 b4 b5 b6 b7 b8 b9) := ((g1.mono (S' := fun d => d = c ∨ d = ox ∨ d = w.heap.size) (fun _ _ h => .inr (.inl h))).trans g2 (fun _ _ h => .inl h)).trans g3 (fun _ _ h => .inr (.inr h))
  have hnO : ∀ d, O' d → ¬ (d = c ∨ d = ox ∨ d = w.heap.size) := fun d hd hh => by
    have := h.hOl d hd
    rcases hh with rfl | rfl | rfl
    · exact h.hcO hd
    · omega
    · rcases h.hO' _ hd with hx | hx
      · have := h.hOw _ hx; omega
      · omega
  have CI1 : CI (nil3 (set10 w9 ox a0 a1 a2 a3 a4 a5 a6 a7 a8 a9) c) c p := (C.frame g1 (by show c ≠ ox; omega) (fun _ => hnx) (by show tb ≠ ox; omega) (by show tb + 1 ≠ ox; omega)).idle
  refine ⟨S.ri.frame G hnO, fun b hb => ?_, CI1.frame g3 (by omega), h.fr.trans G (fun d hd hh => ?_), ((S.b1.frame g1 (by omega)).frame g2 (by omega)).set10 b0 b1 b2 b3 b4 b5 b6 b7 b8 b9, G⟩
  · rcases h.hO' b hb with hx | hx
    · exact .inl hx
    · exact .inr (by omega)
  · rcases hh with hh | hh | hh
    · exact .inl hh
    · omega
    · omega
theorem Way.bad (h : Way w w1 w6 w9 c p nb tb ox Op O' ns) (hnx : nb ≠ ox) {X : Cx} {cur : Nat} {s : Ck} {e q : Int} {tx : Nat} {v : Value} {root : Int} (C : CM w9 ⟨c, p, nb, tb, tb + 1, ns⟩ X cur s e q) (S : Sd w9 p w.heap.size tx ox O' v root) {src : ByteArray} (hA : Ans src (flFs 0 (treeOf src)) (hdF 0 (treeOf src)) 0 0) (hK : ckAll (treeOf src) src.size = .bad e q) (a0 a1 a2 a3 a4 a5 a6 a7 a8 a9 b0 b1 b2 b3 b4 b5 b6 b7 b8 b9 : Value) :
    CkR w c p Op src (.returned (refV e q)) (set10 (nil3 (set10 w9 ox a0 a1 a2 a3 a4 a5 a6 a7 a8 a9) c) w.heap.size b0 b1 b2 b3 b4 b5 b6 b7 b8 b9) := by
  obtain ⟨h1, h2, h3, h4, _, _⟩ := h.end hnx C S a0 a1 a2 a3 a4 a5 a6 a7 a8 a9 b0 b1 b2 b3 b4 b5 b6 b7 b8 b9
  exact ⟨O', _, _, _, _, [], -1, [], [], [], -1, e, q, rfl, h1, h2, h3, h.hcO, h4, .nil _, fun d hd => by rcases hd with h | h | h | h <;> exact absurd h (nilB d), .inr ⟨hA, by rw [hK]; exact ⟨rfl, rfl, rfl, rfl, rfl, rfl, rfl, rfl⟩⟩⟩
/-- The answer of a check that has gone through. -/
theorem Way.good (h : Way w w1 w6 w9 c p nb tb ox Op O' ns) (hnx : nb ≠ ox) {X : Cx} {cur : Nat} {s : Ck} {tx fb : Nat} {root : Int} {g : Nat → Value} {m : Nat} (C : CM w9 ⟨c, p, nb, tb, tb + 1, ns⟩ X cur s 0 0) (S : Sd w9 p w.heap.size tx ox O' (.slice (some ⟨nb, 0, none⟩) ns.length ns.length) root) {src : ByteArray} (hA : Ans src (flFs 0 (treeOf src)) (hdF 0 (treeOf src)) 0 0) (hK : ckAll (treeOf src) src.size = .ok X s m) (hns : ns = flFs 0 (treeOf src)) (hroot : root = hdF 0 (treeOf src)) (hn0 : ns ≠ [])
    (BF : Blk w9 fb (X.fs.length * 7) g) (hg : FrP g (X.fs.zip s.lim)) (hf0 : 0 < X.fs.length) (hfb : ox < fb) (hnb : w.heap.size < nb) (hnb2 : nb ≤ w1.heap.size) (hnO : ¬ O' nb) :
    CkR w c p Op src (.returned (chkV (.slice (some ⟨nb, 0, none⟩) ns.length ns.length) root 0 0 (.slice (some ⟨tb, 0, none⟩) ns.length ns.length) (.slice (some ⟨tb + 1, 0, none⟩) ns.length ns.length) (.slice (some ⟨fb, 0, none⟩) X.fs.length X.fs.length) m 0 0))
      (set10 (nil3 (set10 w9 ox (.slice (some ⟨nb, 0, none⟩) ns.length ns.length) (.int .i64 root) (.int .i64 0) (.int .i64 0) (.slice (some ⟨tb, 0, none⟩) ns.length ns.length) (.slice (some ⟨tb + 1, 0, none⟩) ns.length ns.length) (.slice (some ⟨fb, 0, none⟩) X.fs.length X.fs.length) (.int .i64 m) (.int .i64 0) (.int .i64 0)) c) w.heap.size (.slice (some ⟨nb, 0, none⟩) ns.length ns.length) (.int .i64 root) (.int .i64 0) (.int .i64 0) (.slice (some ⟨tb, 0, none⟩) ns.length ns.length) (.slice (some ⟨tb + 1, 0, none⟩) ns.length ns.length) (.slice (some ⟨fb, 0, none⟩) X.fs.length X.fs.length) (.int .i64 m) (.int .i64 0) (.int .i64 0)) := by
  obtain ⟨h1, h2, h3, h4, _, G⟩ := h.end hnx C S (.slice (some ⟨nb, 0, none⟩) ns.length ns.length) (.int .i64 root) (.int .i64 0) (.int .i64 0) (.slice (some ⟨tb, 0, none⟩) ns.length ns.length) (.slice (some ⟨tb + 1, 0, none⟩) ns.length ns.length) (.slice (some ⟨fb, 0, none⟩) X.fs.length X.fs.length) (.int .i64 m) (.int .i64 0) (.int .i64 0) (.slice (some ⟨nb, 0, none⟩) ns.length ns.length) (.int .i64 root) (.int .i64 0) (.int .i64 0) (.slice (some ⟨tb, 0, none⟩) ns.length ns.length) (.slice (some ⟨tb + 1, 0, none⟩) ns.length ns.length) (.slice (some ⟨fb, 0, none⟩) X.fs.length X.fs.length) (.int .i64 m) (.int .i64 0) (.int .i64 0)
  have k1 := h.hw1
  have k2 := h.htb
  have k3 := h.hox
  have k4 := h.hlt
  have hlen : 0 < ns.length := List.length_pos_iff.2 hn0
  obtain ⟨gn, n1, n2⟩ := C.nds hn0
  have one : ∀ {b b' l l'}, isBlk (.slice (some ⟨b', 0, none⟩) l l') b → b = b' := fun hb => by obtain ⟨_, _, e⟩ := hb; injection e with e _ _; injection e with e; injection e with e; exact e.symm
  have zl : (X.fs.zip s.lim).length = X.fs.length := by simp [C.lim]
  refine ⟨O', _, _, _, _, ns, root, s.ty, s.rf, X.fs.zip s.lim, m, 0, 0, rfl, h1, h2, h3, h.hcO, h4, ⟨.inr ⟨nb, gn, rfl, n1.frame G (by show ¬ (nb = c ∨ nb = ox ∨ nb = w.heap.size); omega), n2, hlen⟩, .inr ⟨tb, by rw [C.tyl], by rw [C.tyl]; exact C.tyb.frame G (by show ¬ (tb = c ∨ tb = ox ∨ tb = w.heap.size); omega), by rw [C.tyl]; exact hlen⟩, .inr ⟨tb + 1, by rw [C.rfl'], by rw [C.rfl']; exact C.rfb.frame G (by show ¬ (tb + 1 = c ∨ tb + 1 = ox ∨ tb + 1 = w.heap.size); omega), by rw [C.rfl']; exact hlen⟩, .inr ⟨fb, g, by rw [zl], by rw [zl]; exact BF.frame G (by omega), hg, by rw [zl]; exact hf0⟩, ⟨fun b p q => ?_, fun b p q => ?_, fun b p q => ?_, fun b p q => ?_, fun b p q => ?_, fun b p q => ?_⟩, C.le, by rw [C.tyl]; exact C.le, by rw [C.rfl']; exact C.le, by rw [zl]; have := C.xok.le; omega⟩, fun b hb => ?_, .inr ⟨hA, by rw [hK]; exact ⟨hns, hroot, rfl, rfl, rfl, rfl, rfl, rfl⟩⟩⟩
  · have := one p; have := one q; omega
  · have := one p; have := one q; omega
  · have := one p; have := one q; omega
  · have := one p; have := one q; omega
  · have := one p; have := one q; omega
  · have := one p; have := one q; omega
  · have hlo := h.hOl
    rcases hb with hb | hb | hb | hb
    · have e := one hb; subst e; exact ⟨by omega, hnO, by omega⟩
    · have e := one hb; subst e; exact ⟨by omega, fun ho => by have := hlo _ ho; omega, by omega⟩
    · have e := one hb; subst e; exact ⟨by omega, fun ho => by have := hlo _ ho; omega, by omega⟩
    · have e := one hb; subst e; exact ⟨by omega, fun ho => by have := hlo _ ho; omega, by omega⟩
end
end Go.Proofs.Qxb6500277aGreat
