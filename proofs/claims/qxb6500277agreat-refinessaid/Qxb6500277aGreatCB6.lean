/- The real checker between calls; what Check answers. -/
import Derived.Test.Qxb6500277aGreatCB5
import Derived.Test.Qxb6500277aGreatPW20
namespace Go.Proofs.Qxb6500277aGreat
open Go Go.RowKit

/-- The checker between calls. -/
def CI (w : World) (c p : Nat) : Prop := ∃ f X cur s er po, Blk w c 420 f ∧ RF f p X cur s er po ∧ f 415 = .slice none 0 0 ∧ f 416 = .slice none 0 0 ∧ f 417 = .slice none 0 0 ∧ Good s ∧ (∃ ns, XOk X ns) ∧ ∀ i, i < s.vs.length → (vAt s.vs i).name.size ≤ 8
theorem CI.frame {w w' : World} {c p : Nat} {S : Nat → Prop} (h : CI w c p) (k : Fr S w w') (hs : ¬ S c) : CI w' c p := by
  obtain ⟨f, X, cur, s, er, po, b, r⟩ := h
  exact ⟨f, X, cur, s, er, po, b.frame k hs, r⟩
theorem CI.lt {w : World} {c p : Nat} (h : CI w c p) : c < w.heap.size := by
  obtain ⟨f, X, cur, s, er, po, b, r⟩ := h
  exact b.lt
/-- A list of numbers without spare room. -/
def ILV (w : World) (v : Value) (l : List Int) : Prop := (v = .slice none 0 0 ∧ l = []) ∨ ∃ b, v = .slice (some ⟨b, 0, none⟩) l.length l.length ∧ Blk w b l.length (iL l) ∧ 0 < l.length
theorem ILV.frame {w w' : World} {v : Value} {l : List Int} {S : Nat → Prop} (h : ILV w v l) (k : Fr S w w') (hb : ∀ b, isBlk v b → ¬ S b) : ILV w' v l := by
  rcases h with h | ⟨b, rfl, h1, h2⟩
  · exact .inl h
  · exact .inr ⟨b, rfl, h1.frame k (hb b ⟨_, _, rfl⟩), h2⟩
abbrev FR := Fh × (Nat × Nat)
def fr0 : FR := (⟨0, 0, 0, 0, ⟨#[]⟩⟩, (0, 0))
def frC (x : FR) (o : Nat) : Value := match o with | 0 => .int .i64 x.1.node | 1 => .int .i64 x.1.ret | 2 => .int .i64 x.1.pi | 3 => .int .i64 x.1.pr | 4 => .int .i64 x.2.1 | 5 => .int .i64 x.2.2 | _ => .string x.1.name
/-- The records of functions in a row of cells. -/
def FrP (f : Nat → Value) (rs : List FR) : Prop := ∀ j (h : j < rs.length), ∀ o, o < 7 → f (j * 7 + o) = frC rs[j] o
def FLV (w : World) (v : Value) (rs : List FR) : Prop := (v = .slice none 0 0 ∧ rs = []) ∨ ∃ b f, v = .slice (some ⟨b, 0, none⟩) rs.length rs.length ∧ Blk w b (rs.length * 7) f ∧ FrP f rs ∧ 0 < rs.length
theorem FLV.frame {w w' : World} {v : Value} {rs : List FR} {S : Nat → Prop} (h : FLV w v rs) (k : Fr S w w') (hb : ∀ b, isBlk v b → ¬ S b) : FLV w' v rs := by
  rcases h with h | ⟨b, f, rfl, h1, h2⟩
  · exact .inl h
  · exact .inr ⟨b, f, rfl, h1.frame k (hb b ⟨_, _, rfl⟩), h2⟩
/-- The four lists of an answer lie apart. -/
structure Apart (v t r f : Value) : Prop where
  vt : ∀ b, isBlk v b → ¬ isBlk t b
  vr : ∀ b, isBlk v b → ¬ isBlk r b
  vf : ∀ b, isBlk v b → ¬ isBlk f b
  tr : ∀ b, isBlk t b → ¬ isBlk r b
  tf : ∀ b, isBlk t b → ¬ isBlk f b
  rf : ∀ b, isBlk r b → ¬ isBlk f b
def inB4 (v t r f : Value) (b : Nat) : Prop := isBlk v b ∨ isBlk t b ∨ isBlk r b ∨ isBlk f b
theorem nilB (b : Nat) : ¬ isBlk (.slice none 0 0) b := fun h => by obtain ⟨_, _, e⟩ := h; cases e
theorem Apart.nil : Apart (.slice none 0 0) (.slice none 0 0) (.slice none 0 0) (.slice none 0 0) := ⟨fun b h => absurd h (nilB b), fun b h => absurd h (nilB b), fun b h => absurd h (nilB b), fun b h => absurd h (nilB b), fun b h => absurd h (nilB b), fun b h => absurd h (nilB b)⟩
/-- An answer in memory. -/
structure AnsM (w : World) (v t r f : Value) (ns : List Nd) (ty rf : List Int) (rs : List FR) : Prop where
  hv : NLV w v ns
  ht : ILV w t ty
  hr : ILV w r rf
  hf : FLV w f rs
  ap : Apart v t r f
  nl : ns.length ≤ 200
  tl : ty.length ≤ 200
  rl : rf.length ≤ 200
  fl : rs.length ≤ 200
theorem AnsM.nil (w : World) : AnsM w (.slice none 0 0) (.slice none 0 0) (.slice none 0 0) (.slice none 0 0) [] [] [] [] := ⟨.inl ⟨rfl, rfl⟩, .inl ⟨rfl, rfl⟩, .inl ⟨rfl, rfl⟩, .inl ⟨rfl, rfl⟩, .nil, by simp, by simp, by simp, by simp⟩
theorem AnsM.frame {w w' : World} {v t r f : Value} {ns : List Nd} {ty rf : List Int} {rs : List FR} {S : Nat → Prop} (h : AnsM w v t r f ns ty rf rs) (k : Fr S w w') (hb : ∀ b, inB4 v t r f b → ¬ S b) : AnsM w' v t r f ns ty rf rs :=
  ⟨h.hv.frame k fun b hb' => hb b (.inl hb'), h.ht.frame k fun b hb' => hb b (.inr (.inl hb')), h.hr.frame k fun b hb' => hb b (.inr (.inr (.inl hb'))), h.hf.frame k fun b hb' => hb b (.inr (.inr (.inr hb'))), h.ap, h.nl, h.tl, h.rl, h.fl⟩
/-- What Check answers. -/
def CkR (w : World) (c p : Nat) (Op : Nat → Prop) (src : ByteArray) (e : Ending) (w' : World) : Prop := ∃ (Op' : Nat → Prop) (v t r f : Value) (ns : List Nd) (root : Int) (ty rf : List Int) (rs : List FR) (main err pos : Int),
  e = .returned (chkV v root 0 0 t r f main err pos) ∧ RIx w' p Op' ∧ (∀ b, Op' b → Op b ∨ w.heap.size ≤ b) ∧ CI w' c p ∧ ¬ Op' c ∧ Fr (fun b => b = c ∨ Op b) w w' ∧ AnsM w' v t r f ns ty rf rs ∧ (∀ b, inB4 v t r f b → w.heap.size ≤ b ∧ ¬ Op' b ∧ b ≠ c) ∧ KA src ns root ty rf rs main err pos
def z10 (o : Nat) : Value := match o with | 0 => .slice none 0 0 | 1 => .int .i64 0 | 2 => .int .i64 0 | 3 => .int .i64 0 | 4 => .slice none 0 0 | 5 => .slice none 0 0 | 6 => .slice none 0 0 | 7 => .int .i64 0 | 8 => .int .i64 0 | _ => .int .i64 0
def box10 : Obj := .cells #[.slice none 0 0, .int .i64 0, .int .i64 0, .int .i64 0, .slice none 0 0, .slice none 0 0, .slice none 0 0, .int .i64 0, .int .i64 0, .int .i64 0] 69
theorem lt10 {o : Nat} (h : o < 10) : o = 0 ∨ o = 1 ∨ o = 2 ∨ o = 3 ∨ o = 4 ∨ o = 5 ∨ o = 6 ∨ o = 7 ∨ o = 8 ∨ o = 9 := by omega
theorem box10_blk (w : World) : Blk (w.alloc box10) w.heap.size 10 z10 := Blk.new w _ _ _ fun o ho => by
  have ho : o < 10 := ho
  rcases lt10 ho with rfl | rfl | rfl | rfl | rfl | rfl | rfl | rfl | rfl | rfl <;> rfl
def trC (v : Value) (r e q : Int) (o : Nat) : Value := match o with | 0 => v | 1 => .int .i64 r | 2 => .int .i64 e | _ => .int .i64 q
theorem trC_blk (w : World) (v : Value) (r e q : Int) : Blk (w.alloc (.cells #[v, .int .i64 r, .int .i64 e, .int .i64 q] 66)) w.heap.size 4 (trC v r e q) := Blk.new w _ _ _ fun o ho => by
  obtain rfl | rfl | rfl | rfl : o = 0 ∨ o = 1 ∨ o = 2 ∨ o = 3 := by have : o < 4 := ho; omega
  all_goals rfl
/-- What stands beside the checker in Check. -/
structure Sd (w : World) (p rx tx ox : Nat) (Op : Nat → Prop) (v : Value) (root : Int) : Prop where
  ri : RIx w p Op
  b1 : Blk w rx 10 z10
  b2 : Blk w tx 4 (trC v root 0 0)
  b3 : Blk w ox 10 z10
theorem Sd.frame {w w' : World} {p rx tx ox : Nat} {Op S : Nat → Prop} {v : Value} {root : Int} (h : Sd w p rx tx ox Op v root) (k : Fr S w w') (hs : ∀ b, Op b ∨ b = rx ∨ b = tx ∨ b = ox → ¬ S b) : Sd w' p rx tx ox Op v root :=
  ⟨h.ri.frame k fun b hb => hs b (.inl hb), h.b1.frame k (hs _ (.inr (.inl rfl))), h.b2.frame k (hs _ (.inr (.inr (.inl rfl)))), h.b3.frame k (hs _ (.inr (.inr (.inr rfl))))⟩
def set10 (w : World) (b : Nat) (a0 a1 a2 a3 a4 a5 a6 a7 a8 a9 : Value) : World := (((((((((w.setCell ⟨b, 0, none⟩ a0).setCell ⟨b, 1, none⟩ a1).setCell ⟨b, 2, none⟩ a2).setCell ⟨b, 3, none⟩ a3).setCell ⟨b, 4, none⟩ a4).setCell ⟨b, 5, none⟩ a5).setCell ⟨b, 6, none⟩ a6).setCell ⟨b, 7, none⟩ a7).setCell ⟨b, 8, none⟩ a8).setCell ⟨b, 9, none⟩ a9
def c10 (a0 a1 a2 a3 a4 a5 a6 a7 a8 a9 : Value) (o : Nat) : Value := match o with | 0 => a0 | 1 => a1 | 2 => a2 | 3 => a3 | 4 => a4 | 5 => a5 | 6 => a6 | 7 => a7 | 8 => a8 | _ => a9
theorem Blk.set10 {w : World} {b : Nat} {f : Nat → Value} (h : Blk w b 10 f) (a0 a1 a2 a3 a4 a5 a6 a7 a8 a9 : Value) : Blk (Go.Proofs.Qxb6500277aGreat.set10 w b a0 a1 a2 a3 a4 a5 a6 a7 a8 a9) b 10 (c10 a0 a1 a2 a3 a4 a5 a6 a7 a8 a9) :=
  ((((((((((h.set 0 a0).set 1 a1).set 2 a2).set 3 a3).set 4 a4).set 5 a5).set 6 a6).set 7 a7).set 8 a8).set 9 a9).congr fun o ho => by
    rcases lt10 ho with rfl | rfl | rfl | rfl | rfl | rfl | rfl | rfl | rfl | rfl <;> simp [upd, c10]
theorem Fr.set10 {S : Nat → Prop} {a w : World} {b : Nat} (h : Fr S a w) (hb : b < a.heap.size → S b) (a0 a1 a2 a3 a4 a5 a6 a7 a8 a9 : Value) : Fr S a (Go.Proofs.Qxb6500277aGreat.set10 w b a0 a1 a2 a3 a4 a5 a6 a7 a8 a9) :=
  (((((((((h.setC b 0 a0 hb).setC b 1 a1 hb).setC b 2 a2 hb).setC b 3 a3 hb).setC b 4 a4 hb).setC b 5 a5 hb).setC b 6 a6 hb).setC b 7 a7 hb).setC b 8 a8 hb).setC b 9 a9 hb
/-- A check that has ended: its three lists are let go. -/
theorem CM.idle {w : World} {A : Ca} {X : Cx} {cur : Nat} {s : Ck} {er po : Int} (H : CM w A X cur s er po) : CI (((w.setCell ⟨A.c, 415, none⟩ (.slice none 0 0)).setCell ⟨A.c, 416, none⟩ (.slice none 0 0)).setCell ⟨A.c, 417, none⟩ (.slice none 0 0)) A.c A.p := by
  obtain ⟨f, b1, b2, b3, b4, b5⟩ := H.blk
  refine ⟨_, X, cur, s, er, po, ((b1.set 415 _).set 416 _).set 417 _, b2.congr H.xok.le (fun i hi => (H.xok.p4 i hi).1) (fun k hk => ?_) ?_ ?_, ?_, ?_, ?_, H.good, ⟨A.ns, H.xok⟩, H.nms⟩
  · rw [upd_other _ _ _ _ (by omega), upd_other _ _ _ _ (by omega), upd_other _ _ _ _ (by omega)]
  · rw [upd_other _ _ _ _ (by omega), upd_other _ _ _ _ (by omega), upd_other _ _ _ _ (by omega)]; exact b2.er
  · rw [upd_other _ _ _ _ (by omega), upd_other _ _ _ _ (by omega), upd_other _ _ _ _ (by omega)]; exact b2.po
  · rw [upd_other _ _ _ _ (by omega), upd_other _ _ _ _ (by omega), upd_same]
  · rw [upd_other _ _ _ _ (by omega), upd_same]
  · rw [upd_same]
end Go.Proofs.Qxb6500277aGreat
