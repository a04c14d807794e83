import Derived.Test.Qxb6500282aF20
import Derived.Test.Qxb6500282aInstOf
import Derived.Test.Qxb6500282aAppC
namespace Go.Proofs.Qxb6500282a
open Go Go.RowKit

def gcell (g : Gh) (o : Nat) : Value :=
  match o with
  | 0 => .int .i64 g.seen
  | 1 => .int .i64 g.room
  | 2 => .int .i64 g.fl
  | 3 => .int .i64 g.toil
  | _ => .int .i64 g.most
theorem LawW.frame {w w' : World} {lo x m db : Nat} {kv : Value} {K : List In} {s : DS} {pv : Value} {p : List In} (h : LawW w lo x m db kv K s pv p) (k : Fr (fun _ => False) w w') : LawW w' lo x m db kv K s pv p := by
  obtain ⟨f1, hf1⟩ := h.mb
  obtain ⟨f2, hf2⟩ := h.desk
  exact ⟨h.dv.frame k, ⟨f1, hf1.frame k (by simp)⟩, ⟨f2, hf2.frame k (by simp)⟩, h.code.frame k (fun _ _ _ _ h => h), h.len, h.lay, h.kvb, h.pvb⟩
theorem LawW.recode {w w' : World} {lo x m db : Nat} {kv : Value} {K : List In} {s : DS} {pv pv' : Value} {p p' : List In} (h : LawW w lo x m db kv K s pv p) (k : Fr (fun b => ∃ n c, pv = .slice (some ⟨b, 0, none⟩) n c) w w') (hc : CodeAt w' pv' p') (hl : p'.length ≤ 65)
    (hb : ∀ b n c, pv' = .slice (some ⟨b, 0, none⟩) n c → w.heap.size ≤ b ∨ ∃ n' c', pv = .slice (some ⟨b, 0, none⟩) n' c') : LawW w' lo x m db kv K s pv' p' := by
  obtain ⟨l1, l2, l3⟩ := h.lay
  obtain ⟨f1, hf1⟩ := h.mb
  obtain ⟨f2, hf2⟩ := h.desk
  have hdl := hf2.lt
  have hlow : ∀ b, b ≤ db → ¬ ∃ n c, pv = .slice (some ⟨b, 0, none⟩) n c := fun b hb ⟨n, c, e⟩ => by have := h.pvb b n c e; omega
  refine ⟨h.dv.far k (fun b hb => hlow b (by unfold mOwn at hb; omega)) (fun b n c e ⟨n', c', e'⟩ => (h.kvb b n c e).2 n' c' e'), ⟨f1, hf1.frame k (hlow _ (by omega))⟩, ⟨f2, hf2.frame k (hlow _ (Nat.le_refl _))⟩, hc, hl, h.lay, fun b n c e => ⟨(h.kvb b n c e).1, fun n' c' e' => ?_⟩, fun b n c e => ?_⟩
  · rcases hb b n' c' e' with h1 | ⟨n2, c2, h1⟩
    · have := h.dv.kv.lt e; omega
    · exact (h.kvb b n c e).2 n2 c2 h1
  · rcases hb b n c e with h1 | ⟨n2, c2, h1⟩
    · omega
    · exact h.pvb b n2 c2 h1
/-- One turn of the law's state in the quiet walk. -/
structure QInv (w0 w : World) (x m gb db : Nat) (k : Nat) (pv : Value) (p : List In) (str : ByteArray) (kv : Value) (K : List In) (s : DS) (g : Gh) : Prop where
  law : LawW w w0.heap.size x m db kv K s pv p
  sz : str.size ≤ 257
  gb_ : Blk w gb 5 (gcell g)
  gok : GOk g s
  b : s.built ≤ 300 * k
  f : s.flushes ≤ 300 * k
  wk : s.worked ≤ 300 * k
  rm : g.room ≤ 300 * k
  ms : g.most ≤ 300 * k
  fr : Fr (fun _ => False) w0 w
  lay : m < gb ∧ gb < db
theorem QInv.keep {w0 w w' : World} {x m gb db k : Nat} {pv pv' : Value} {p p' : List In} {str str' : ByteArray} {kv : Value} {K : List In} {s : DS} {g : Gh} (h : QInv w0 w x m gb db k pv p str kv K s g) (hl : LawW w' w0.heap.size x m db kv K s pv' p') (hs : str'.size ≤ 257)
    (S : Nat → Prop) (k' : Fr S w w') (hS : ∀ b, S b → db ≤ b) : QInv w0 w' x m gb db (k + 1) pv' p' str' kv K s g :=
  ⟨hl, hs, h.gb_.frame k' (fun e => by have := hS _ e; have := h.lay; omega), h.gok, by have := h.b; omega, by have := h.f; omega, by have := h.wk; omega, by have := h.rm; omega, by have := h.ms; omega,
   h.fr.trans k' (fun b hb e => by have := hS _ e; have := h.lay; have := h.law.lay; omega), h.lay⟩
end Go.Proofs.Qxb6500282a
