import Derived.Test.Qxb6500283aGreatPkRoad
namespace Go.Proofs.Qxb6500283aGreat
open Go Go.RowKit


theorem Fr.cellAt {S : Nat → Prop} {w w1 : World} (k : Fr S w w1) {b : Nat} (hl : b < w.heap.size) (hS : ¬ S b) (o : Nat) : w1.cell? ⟨b, o, none⟩ = w.cell? ⟨b, o, none⟩ := k.cell (p := ⟨b, o, none⟩) hl hS
theorem Fr.frozenAt {S : Nat → Prop} {w w1 : World} (k : Fr S w w1) {b : Nat} (hl : b < w.heap.size) (hS : ¬ S b) (o : Nat) : w1.frozen? ⟨b, o, none⟩ = w.frozen? ⟨b, o, none⟩ := k.frozen (p := ⟨b, o, none⟩) hl hS
theorem Blk.far8 {w : World} {b n b' : Nat} {f : Nat → Value} (h : Blk w b n f) (hb : b ≠ b') (v0 v1 v2 v3 v4 v5 v6 v7 : Value) : Blk ((((((((w.setCell ⟨b', 0, none⟩ v0).setCell ⟨b', 1, none⟩ v1).setCell ⟨b', 2, none⟩ v2).setCell ⟨b', 3, none⟩ v3).setCell ⟨b', 4, none⟩ v4).setCell ⟨b', 5, none⟩ v5).setCell ⟨b', 6, none⟩ v6).setCell ⟨b', 7, none⟩ v7) b n f :=
  (((((((h.setOther _ v0 hb).setOther _ v1 hb).setOther _ v2 hb).setOther _ v3 hb).setOther _ v4 hb).setOther _ v5 hb).setOther _ v6 hb).setOther _ v7 hb

end Go.Proofs.Qxb6500283aGreat
