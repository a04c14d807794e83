/- exprText's frame: its box, its node. -/
import Derived.Test.Qxb6500280aRW3
namespace Go.Proofs.Qxb6500280a
open Go Go.RowKit

def bxC (v : Value) (r e q : Int) (o : Nat) : Value := match o with | 0 => v | 1 => .int .i64 r | 2 => .int .i64 e | _ => .int .i64 q
def bxO (b n : Nat) (r e q : Int) : Obj := .cells #[.slice (some ⟨b, 0, none⟩) n n, .int .i64 r, .int .i64 e, .int .i64 q] 41
def ndO (nd : Nd) : Obj := .cells #[.int .i64 nd.kind, .int .i64 nd.a, .int .i64 nd.b, .int .i64 nd.c, .int .i64 nd.nx, .int .i64 nd.val, .int .i64 nd.pos, .string nd.name] 67
/-- What a printing function holds: the tree's box at y, the node's copy behind it. -/
structure FX (y : Nat) (w : World) (b : Nat) (ns : List Nd) (r er q : Int) (nd : Nd) : Prop where
  sz : y + 2 ≤ w.heap.size
  bx : Blk w y 4 (bxC (.slice (some ⟨b, 0, none⟩) ns.length ns.length) r er q)
  nd : Blk w (y + 1) 8 (ndCell nd)
  nt : NT w b ns
  lo : b < y
section
variable {y : Nat} {w w' : World} {b : Nat} {ns : List Nd} {r er q : Int} {nd : Nd}
theorem FX.next (h : FX y w b ns r er q nd) (k : Fr (fun _ => False) w w') : FX y w' b ns r er q nd := ⟨Nat.le_trans h.sz k.size, h.bx.frame k (fun h => h), h.nd.frame k (fun h => h), h.nt.frame k (fun h => h), h.lo⟩
theorem FX.start (h : NT w b ns) (r er q : Int) (nd : Nd) : FX w.heap.size ((w.alloc (bxO b ns.length r er q)).alloc (ndO nd)) b ns r er q nd := by
  have k1 : Fr (fun _ => False) w (w.alloc (bxO b ns.length r er q)) := (Fr.refl _ _).alloc _
  have k2 : Fr (fun _ => False) (w.alloc (bxO b ns.length r er q)) ((w.alloc (bxO b ns.length r er q)).alloc (ndO nd)) := (Fr.refl _ _).alloc _
  refine ⟨by simp [World.size_alloc], ?_, ?_, (h.frame k1 (fun h => h)).frame k2 (fun h => h), h.lt⟩
  · refine Blk.frame (Blk.new w _ _ _ fun o ho => ?_) k2 (fun h => h)
    obtain rfl | rfl | rfl | rfl : o = 0 ∨ o = 1 ∨ o = 2 ∨ o = 3 := by have : o < 4 := ho; omega
    all_goals rfl
  · have := Blk.new (w.alloc (bxO b ns.length r er q)) #[.int .i64 nd.kind, .int .i64 nd.a, .int .i64 nd.b, .int .i64 nd.c, .int .i64 nd.nx, .int .i64 nd.val, .int .i64 nd.pos, .string nd.name] 67 (ndCell nd) (fun o ho => by
      obtain rfl | rfl | rfl | rfl | rfl | rfl | rfl | rfl : o = 0 ∨ o = 1 ∨ o = 2 ∨ o = 3 ∨ o = 4 ∨ o = 5 ∨ o = 6 ∨ o = 7 := by have : o < 8 := ho; omega
      all_goals rfl)
    rw [World.size_alloc] at this
    exact this
theorem FX.box (h : FX y w b ns r er q nd) : w.cell? ⟨y, 0, none⟩ = some (.slice (some ⟨b, 0, none⟩) ns.length ns.length) ∧ w.cell? ⟨y, 1, none⟩ = some (.int .i64 r) ∧ w.cell? ⟨y, 2, none⟩ = some (.int .i64 er) ∧ w.cell? ⟨y, 3, none⟩ = some (.int .i64 q) ∧ y < w.heap.size ∧ y + 1 < w.heap.size :=
  ⟨h.bx.cell (by omega), h.bx.cell (by omega), h.bx.cell (by omega), h.bx.cell (by omega), h.bx.lt, h.nd.lt⟩
theorem FX.node (h : FX y w b ns r er q nd) : w.cell? ⟨y + 1, 0, none⟩ = some (.int .i64 nd.kind) ∧ w.cell? ⟨y + 1, 1, none⟩ = some (.int .i64 nd.a) ∧ w.cell? ⟨y + 1, 2, none⟩ = some (.int .i64 nd.b) ∧ w.cell? ⟨y + 1, 3, none⟩ = some (.int .i64 nd.c) ∧
    w.cell? ⟨y + 1, 4, none⟩ = some (.int .i64 nd.nx) ∧ w.cell? ⟨y + 1, 5, none⟩ = some (.int .i64 nd.val) ∧ w.cell? ⟨y + 1, 6, none⟩ = some (.int .i64 nd.pos) ∧ w.cell? ⟨y + 1, 7, none⟩ = some (.string nd.name) :=
  ⟨h.nd.cell (by omega), h.nd.cell (by omega), h.nd.cell (by omega), h.nd.cell (by omega), h.nd.cell (by omega), h.nd.cell (by omega), h.nd.cell (by omega), h.nd.cell (by omega)⟩
end
theorem rtE_nat (o : Nat) (e : Exp) : ∃ x : Nat, rtE o e = (x : Int) ∧ x + 1 = o + szE e := ⟨o + szE e - 1, by have := szE_pos e; unfold rtE; omega, by have := szE_pos e; omega⟩
/-- The root of a tree that lies there. -/
theorem Sub.root {ns : List Nd} {o : Nat} {nx : Int} {e : Exp} (h : Sub ns o (flE o nx e)) {x : Nat} (hx : x + 1 = o + szE e) : ∃ nd, (∃ hl : x < ns.length, ns[x] = nd) ∧ nd.kind = kiE e ∧ (∀ k p l r, e = .bin k p l r → nd.val = k) := by
  have key : ∀ (l : List Nd) (nd : Nd), flE o nx e = l ++ [nd] → ∃ hl : x < ns.length, ns[x] = nd := fun l nd hh => by
    rw [hh] at h
    have hle := flE_len o nx e
    rw [hh] at hle
    simp at hle
    have := h.app.2.one
    rwa [show o + l.length = x by omega] at this
  cases e with
  | num v p => exact ⟨_, key [] _ rfl, rfl, fun _ _ _ _ h => by cases h⟩
  | boo v p => exact ⟨_, key [] _ rfl, rfl, fun _ _ _ _ h => by cases h⟩
  | var s p => exact ⟨_, key [] _ rfl, rfl, fun _ _ _ _ h => by cases h⟩
  | rd p => exact ⟨_, key [] _ rfl, rfl, fun _ _ _ _ h => by cases h⟩
  | call s p gs => exact ⟨⟨13, hdE o gs, -1, -1, nx, 0, p, s⟩, key (flEs o gs) _ (by simp [flE]), rfl, fun _ _ _ _ h => by cases h⟩
  | idx p x y => exact ⟨⟨14, rtE o x, rtE (o + szE x) y, -1, nx, 0, p, ⟨#[]⟩⟩, key (flE o (-1) x ++ flE (o + szE x) (-1) y) _ (by simp [flE]), rfl, fun _ _ _ _ h => by cases h⟩
  | new t p e => exact ⟨⟨15, rtE o e, -1, -1, nx, t, p, ⟨#[]⟩⟩, key (flE o (-1) e) _ (by simp [flE]), rfl, fun _ _ _ _ h => by cases h⟩
  | len p e => exact ⟨⟨16, rtE o e, -1, -1, nx, 0, p, ⟨#[]⟩⟩, key (flE o (-1) e) _ (by simp [flE]), rfl, fun _ _ _ _ h => by cases h⟩
  | un k p e => exact ⟨⟨19, rtE o e, -1, -1, nx, k, p, ⟨#[]⟩⟩, key (flE o (-1) e) _ (by simp [flE]), rfl, fun _ _ _ _ h => by cases h⟩
  | bin k p l r => exact ⟨⟨18, rtE o l, rtE (o + szE l) r, -1, nx, k, p, ⟨#[]⟩⟩, key (flE o (-1) l ++ flE (o + szE l) (-1) r) _ (by simp [flE]), rfl, fun _ _ _ _ h => by cases h; rfl⟩
theorem sz_str {s : ByteArray} {l : List UInt8} {n : Nat} (h : s.data.toList = l) (hl : l.length ≤ n) : s.size ≤ n := by rw [← h] at hl; simpa using hl
end Go.Proofs.Qxb6500280a
