import Derived.Test.Qxb6500282aF21
namespace Go.Proofs.Qxb6500282a
open Go Go.RowKit

/-- The script lies in memory. -/
def ScrAt (w : World) (a : Option Addr) (n : Nat) : Prop := n = 0 ∨ ∃ b off, a = some ⟨b, off, none⟩ ∧ b < w.heap.size ∧ ∀ i, i < n → ∃ kind A B C S T,
  w.cell? ⟨b, off + i * 6, none⟩ = some (.int .i64 kind) ∧ w.cell? ⟨b, off + i * 6 + 1, none⟩ = some (.int .i64 A) ∧ w.cell? ⟨b, off + i * 6 + 2, none⟩ = some (.int .i64 B) ∧
  w.cell? ⟨b, off + i * 6 + 3, none⟩ = some (.int .i64 C) ∧ w.cell? ⟨b, off + i * 6 + 4, none⟩ = some (.string S) ∧ w.cell? ⟨b, off + i * 6 + 5, none⟩ = some (.string T)
theorem gok0 : GOk gh0 ds0 := ⟨Nat.le_refl _, by simp [ds0], Nat.le_refl _, by simp [ds0], Nat.le_refl _⟩
theorem Blk.gh (w : World) : Blk (w.alloc (.cells #[.int .i64 0, .int .i64 0, .int .i64 0, .int .i64 0, .int .i64 0] 33)) w.heap.size 5 (gcell gh0) :=
  Blk.new w _ _ _ fun o ho => by
    rcases (show o = 0 ∨ o = 1 ∨ o = 2 ∨ o = 3 ∨ o = 4 by simp at ho; omega) with rfl | rfl | rfl | rfl | rfl <;> rfl
theorem PAt.one (w : World) (i : In) : PAt (w.alloc (.cells #[.int .i64 i.op, .int .i64 i.x, .int .i64 i.y, .int .u64 i.s0, .int .u64 i.s1, .int .u64 i.s2, .int .u64 i.s3] 47)) w.heap.size [i] := by
  have hb := Blk.new w #[.int .i64 i.op, .int .i64 i.x, .int .i64 i.y, .int .u64 i.s0, .int .u64 i.s1, .int .u64 i.s2, .int .u64 i.s3] 47 (inCell i) (fun o ho => by
    simp at ho
    rcases (show o = 0 ∨ o = 1 ∨ o = 2 ∨ o = 3 ∨ o = 4 ∨ o = 5 ∨ o = 6 by omega) with rfl | rfl | rfl | rfl | rfl | rfl | rfl <;> rfl)
  intro k hk j hj
  obtain rfl : k = 0 := by simp at hk; omega
  have := hb.cell (o := j) hj
  simpa using this
theorem q0 {w w1 w2 w4 : World} (hd : DInv w1 w.heap.size (.slice none 0 0) [] ds0) (f1 : Fr (fun _ => False) w w1) (hm : ∃ f, Blk w2 w1.heap.size 3 f) (f2 : Fr (fun _ => False) w1 w2) (f4 : Fr (fun _ => False) (w2.alloc (.cells #[.int .i64 0, .int .i64 0, .int .i64 0, .int .i64 0, .int .i64 0] 33)) w4) (hdb : ∃ f, Blk w4 (w2.heap.size + 1) (65 * 7) f) :
    QInv w w4 w.heap.size w1.heap.size w2.heap.size (w2.heap.size + 1) 0 (.slice none 0 0) [] ⟨#[]⟩ (.slice none 0 0) [] ds0 gh0 := by
  have hx := hd.mach.lt
  obtain ⟨fm, hfm⟩ := hm
  have hml := hfm.lt
  have f24 : Fr (fun _ => False) w2 w4 := ((Fr.refl _ _).alloc _).trans f4 (fun _ _ h => h)
  have f14 := f2.trans f24 (fun _ _ h => h)
  exact ⟨⟨hd.frame f14, ⟨fm, hfm.frame f24 (by simp)⟩, hdb, .inl ⟨rfl, rfl⟩, by simp, ⟨Nat.le_refl _, by omega, by omega⟩, fun b n c e => (by cases e), fun b n c e => (by cases e)⟩, by show (0 : Nat) ≤ 257; omega, (Blk.gh w2).frame f4 (by simp), gok0, by simp [ds0], by simp [ds0], by simp [ds0], by simp [gh0], by simp [gh0], f1.trans f14 (fun _ _ h => h), ⟨by omega, by omega⟩⟩

theorem gcell_all (g g' : Gh) : ∀ o, o < 5 → upd (upd (upd (upd (upd (gcell g) 0 (.int .i64 g'.seen)) 1 (.int .i64 g'.room)) 2 (.int .i64 g'.fl)) 3 (.int .i64 g'.toil)) 4 (.int .i64 g'.most) o = gcell g' o := by
  intro o ho
  rcases (show o = 0 ∨ o = 1 ∨ o = 2 ∨ o = 3 ∨ o = 4 by omega) with rfl | rfl | rfl | rfl | rfl <;> simp [upd, gcell]
theorem QInv.setGh {w0 w w' : World} {x m gb db k : Nat} {pv : Value} {p : List In} {str : ByteArray} {kv : Value} {K : List In} {s : DS} {g g' : Gh} (h : QInv w0 w x m gb db k pv p str kv K s g) (f : Fr (fun b => b = gb) w w') (hb : Blk w' gb 5 (gcell g')) (hg : GOk g' s) (h1 : g'.room ≤ g.room) (h2 : g'.most ≤ g.most) : QInv w0 w' x m gb db k pv p str kv K s g' := by
  obtain ⟨l1, l2, l3⟩ := h.law.lay
  obtain ⟨a1, a2⟩ := h.lay
  obtain ⟨fm, hfm⟩ := h.law.mb
  obtain ⟨fd, hfd⟩ := h.law.desk
  refine ⟨⟨h.law.dv.far f (fun b hb => by unfold mOwn at hb; omega) (fun b n c e => by have := h.law.kvb b n c e; omega), ⟨fm, hfm.frame f (by omega)⟩, ⟨fd, hfd.frame f (by omega)⟩, h.law.code.frame f (fun b n c e => by have := h.law.pvb b n c e; omega), h.law.len, h.law.lay, h.law.kvb, h.law.pvb⟩, h.sz, hb, hg, h.b, h.f, h.wk, by have := h.rm; omega, by have := h.ms; omega, h.fr.trans f (fun b hb e => by omega), h.lay⟩
theorem QInv.more {w0 w : World} {x m gb db k : Nat} {pv : Value} {p : List In} {str : ByteArray} {kv : Value} {K : List In} {s : DS} {g : Gh} (h : QInv w0 w x m gb db k pv p str kv K s g) : QInv w0 w x m gb db (k + 1) pv p str kv K s g :=
  ⟨h.law, h.sz, h.gb_, h.gok, by have := h.b; omega, by have := h.f; omega, by have := h.wk; omega, by have := h.rm; omega, by have := h.ms; omega, h.fr, h.lay⟩
theorem QInv.frame {w0 w w' : World} {x m gb db k : Nat} {pv : Value} {p : List In} {str : ByteArray} {kv : Value} {K : List In} {s : DS} {g : Gh} (h : QInv w0 w x m gb db k pv p str kv K s g) (f : Fr (fun _ => False) w w') : QInv w0 w' x m gb db k pv p str kv K s g :=
  ⟨h.law.frame f, h.sz, h.gb_.frame f (by simp), h.gok, h.b, h.f, h.wk, h.rm, h.ms, h.fr.trans f (fun _ _ h => h), h.lay⟩
theorem QInv.observe {w0 w w1 w6 : World} {x m gb db k : Nat} {pv : Value} {p : List In} {str : ByteArray} {kv : Value} {K : List In} {s : DS} {g g' : Gh} (h : QInv w0 w x m gb db k pv p str kv K s g) (f1 : Fr (fun _ => False) w w1) (f6 : Fr (fun _ => False) w1 w6) (hg : GOk g' s) (h1 : g'.room ≤ g.room) (h2 : g'.most ≤ g.most) :
    QInv w0 (((((w6.setCell ⟨gb, 0, none⟩ (.int .i64 g'.seen)).setCell ⟨gb, 1, none⟩ (.int .i64 g'.room)).setCell ⟨gb, 2, none⟩ (.int .i64 g'.fl)).setCell ⟨gb, 3, none⟩ (.int .i64 g'.toil)).setCell ⟨gb, 4, none⟩ (.int .i64 g'.most)) x m gb db (k + 1) pv p str kv K s g' := by
  have hq := (h.frame f1).frame f6
  refine (hq.setGh ?_ ((((((hq.gb_.set 0 _).set 1 _).set 2 _).set 3 _).set 4 _).congr (gcell_all g g')) hg h1 h2).more
  iterate 5 refine Fr.setC ?_ _ _ _ (fun _ => rfl)
  exact Fr.refl _ _

theorem LawW.mark {w w' : World} {lo x m db : Nat} {kv : Value} {K : List In} {s : DS} {pv : Value} {p : List In} (h : LawW w lo x m db kv K s pv p) (f : Fr (fun b => b = m) w w') (hm : ∃ f, Blk w' m 3 f ∧ f 0 = .int .i64 0) : LawW w' lo x m db kv K s pv p := by
  obtain ⟨l1, l2, l3⟩ := h.lay
  obtain ⟨fd, hfd⟩ := h.desk
  obtain ⟨fm, hfm, _⟩ := hm
  exact ⟨h.dv.far f (fun b hb => by unfold mOwn at hb; omega) (fun b n c e => by have := h.kvb b n c e; omega), ⟨fm, hfm⟩, ⟨fd, hfd.frame f (by omega)⟩, h.code.frame f (fun b n c e => by have := h.pvb b n c e; omega), h.len, h.lay, h.kvb, h.pvb⟩
def opcell (kind A B C : Int) (S T : ByteArray) (o : Nat) : Value :=
  match o with
  | 0 => .int .i64 kind
  | 1 => .int .i64 A
  | 2 => .int .i64 B
  | 3 => .int .i64 C
  | 4 => .string S
  | _ => .string T
theorem Blk.op (w : World) (kind A B C : Int) (S T : ByteArray) : Blk (w.alloc (.cells #[.int .i64 kind, .int .i64 A, .int .i64 B, .int .i64 C, .string S, .string T] 42)) w.heap.size 6 (opcell kind A B C S T) :=
  Blk.new w _ _ _ fun o ho => by
    rcases (show o = 0 ∨ o = 1 ∨ o = 2 ∨ o = 3 ∨ o = 4 ∨ o = 5 by simp at ho; omega) with rfl | rfl | rfl | rfl | rfl | rfl <;> rfl
theorem QInv.go1 {w0 w w' : World} {x m gb db k : Nat} {pv : Value} {p : List In} {str : ByteArray} {kv : Value} {K : List In} {s : DS} {g : Gh} (h : QInv w0 w x m gb db k pv p str kv K s g) (f : Fr (fun b => mOwn x b ∨ b = m ∨ b = db) w w') (hl : LawW w' w0.heap.size x m db kv K s pv p) : QInv w0 w' x m gb db (k + 1) pv p str kv K s g := by
  obtain ⟨l1, l2, l3⟩ := h.law.lay
  obtain ⟨a1, a2⟩ := h.lay
  exact ⟨hl, h.sz, h.gb_.frame f (by unfold mOwn; omega), h.gok, by have := h.b; omega, by have := h.f; omega, by have := h.wk; omega, by have := h.rm; omega, by have := h.ms; omega, h.fr.trans f (fun b hb e => by unfold mOwn at e; omega), h.lay⟩
theorem gcell_two (g : Gh) (a b : Nat) : ∀ o, o < 5 → upd (upd (gcell g) 1 (.int .i64 (a : Int))) 4 (.int .i64 (b : Int)) o = gcell ⟨g.seen, a, g.fl, g.toil, b⟩ o := by
  intro o ho
  rcases (show o = 0 ∨ o = 1 ∨ o = 2 ∨ o = 3 ∨ o = 4 by omega) with rfl | rfl | rfl | rfl | rfl <;> simp [upd, gcell]
theorem QInv.go0 {w0 w w2 w3 : World} {x m gb db k : Nat} {pv : Value} {p : List In} {str : ByteArray} {kv kv' : Value} {K : List In} {s s' : DS} {g : Gh} {n from_ : Nat} {b : Bool} (h : QInv w0 w x m gb db k pv p str kv K s g) (f : Fr (fun b => mOwn x b ∨ b = m ∨ b = db) w w2) (hl : LawW w2 w0.heap.size x m db kv' p s' pv p) (ag : AnyG p str from_ s s' n b) (hn : n ≤ 256) (f3 : Fr (fun _ => False) w2 w3) :
    QInv w0 ((w3.setCell ⟨gb, 1, none⟩ (.int .i64 ((g.room + (n + 1) : Nat) : Int))).setCell ⟨gb, 4, none⟩ (.int .i64 ((g.most + (n + 1) + 1 : Nat) : Int))) x m gb db (k + 1) pv p str kv' p s' ⟨g.seen, g.room + (n + 1), g.fl, g.toil, g.most + (n + 1) + 1⟩  := by
  obtain ⟨l1, l2, l3⟩ := h.law.lay
  obtain ⟨a1, a2⟩ := h.lay
  obtain ⟨g1, g2, g3, g4, g5⟩ := h.gok
  have e1 := ag.w1; have e2 := ag.b0; have e3 := ag.b2; have e4 := ag.f0; have e5 := ag.f1; have e6 := ag.w0
  have hb3 := (h.gb_.frame f (by unfold mOwn; omega)).frame f3 (by simp)
  have fs : Fr (fun b => b = gb) w3 ((w3.setCell ⟨gb, 1, none⟩ (.int .i64 ((g.room + (n + 1) : Nat) : Int))).setCell ⟨gb, 4, none⟩ (.int .i64 ((g.most + (n + 1) + 1 : Nat) : Int))) := ((Fr.refl (fun b => b = gb) w3).setC gb 1 _ (fun _ => rfl)).setC gb 4 _ (fun _ => rfl)
  have hl3 := hl.frame f3
  obtain ⟨fm, hfm⟩ := hl3.mb
  obtain ⟨fd, hfd⟩ := hl3.desk
  refine ⟨⟨hl3.dv.far fs (fun b hb => by unfold mOwn at hb; omega) (fun b n c e => by have := hl.kvb b n c e; omega), ⟨fm, hfm.frame fs (by omega)⟩, ⟨fd, hfd.frame fs (by omega)⟩, hl3.code.frame fs (fun b n c e => by have := hl.pvb b n c e; omega), hl3.len, hl3.lay, hl3.kvb, hl3.pvb⟩, h.sz, ((hb3.set 1 _).set 4 _).congr (gcell_two g _ _), ⟨by simp only; omega, by simp only; omega, by simp only; omega, by simp only; omega, by simp only; omega⟩, by have := h.b; omega, by have := h.f; omega, by have := h.wk; omega, by have := h.rm; simp only; omega, by have := h.ms; simp only; omega, ?_, h.lay⟩
  exact ((h.fr.trans f (fun b hb e => by unfold mOwn at e; omega)).trans f3 (fun _ _ h => h)).trans fs (fun b hb e => by omega)

end Go.Proofs.Qxb6500282a
