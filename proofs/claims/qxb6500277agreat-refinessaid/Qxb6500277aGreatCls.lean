/- The classes of operations: 0: it looks at no memory · 1: it reads · 2: it makes new blocks · 3: all else. -/
import Derived.Test.Qxb6500277aGreatSems
namespace Go.Proofs.Qxb6500277aGreat
open Go Go.RowKit

def cls (P : Program) (o : Oper) : Nat :=
  match o.op with
  | .move _ | .assign _ | .pick _ _ _ | .build _ _ | .field _ _ _ | .index _ _ _ | .indexAddr _ _ _ | .extract _ _ | .unOp _ _ _ | .slice _ _ _ _ _ | .nilCheck _ | .binOp _ _ _ _ _ | .convert _ _ _ => 0
  | .fieldAddr s _ f => match P.underlying s with
    | some (.struct fs) => match fs[f]? with
      | some fd => match P.info? fd.type with
        | some i => if i.size = 0 then 3 else 0
        | none => 3
      | none => 3
    | _ => 3
  | .call { callee := .builtin .len, .. } => 0
  | .call { callee := .builtin .cap, .. } => 0
  | .load _ _ => 1
  | .alloc _ | .box _ _ | .buildSlice _ _ _ | .makeSlice _ _ _ => 2
  | _ => 3

def plainPair : Value → Value → Bool
  | .int _ _, .int _ _ => true
  | .string _, .string _ => true
  | .bool _, .bool _ => true
  | .slice _ _ _, .slice _ _ _ => true
  | .pointer none, .pointer _ => true
  | .pointer _, .pointer none => true
  | _, _ => false
def isEq : BinOp → Bool
  | .eql | .neq => true
  | _ => false
def plainBin (op : BinOp) (x y : Value) : Bool :=
  match x, y with
  | .int _ _, .int _ _ => true
  | .string _, .string _ => true
  | .bool _, .bool _ => isEq op
  | .slice _ _ _, .slice _ _ _ => isEq op
  | .pointer none, .pointer _ => isEq op
  | .pointer _, .pointer none => isEq op
  | _, _ => false

/-- What an operation of kind 0 asks of the values at hand. -/
def kOK (P : Program) (o : Oper) (ρ : Operand → Value) : Bool :=
  match o.op with
  | .nilCheck x => match ρ x with
    | .func _ _ _ => false
    | _ => true
  | .binOp op _ x y _ => plainBin op (ρ x) (ρ y)
  | .convert src dst x => match P.underlying src, P.underlying dst, ρ x with
    | some (.int _), some (.int _), .int _ _ => true
    | some .string, some .string, .string _ => true
    | _, _, _ => false
  | .call { callee := .builtin .len, args, .. } => match ((args.map ρ)[0]? : Option Value) with
    | some (.slice _ _ _) => true
    | some (.string _) => true
    | _ => false
  | .call { callee := .builtin .cap, args, .. } => match ((args.map ρ)[0]? : Option Value) with
    | some (.slice _ _ _) => true
    | some (.string _) => true
    | _ => false
  | _ => true

def isVal : Next → Prop := fun n => ∃ v, n = .value v

section
variable {P : Program}

theorem ins_pure {α : Type} {ok : α → Prop} {a : α} (h : ok a) : Ins P ok (pure a : Sem α) := h
theorem ins_stuck {α : Type} {ok : α → Prop} (s : String) : Ins P ok (stuck s : Sem α) := trivial
theorem ins_unsupported {α : Type} {ok : α → Prop} (u : Unsupported) : Ins P ok (unsupported u : Sem α) := trivial
theorem ins_bind' {α β : Type} {ok' : β → Prop} {s : Sem α} {f : α → Sem β} (h : Ins P (fun _ => True) s) (hf : ∀ a, Ins P ok' (f a)) : Ins P ok' (s >>= f) := ins_bind s h fun a _ => hf a
theorem ins_underlying (t : TypeId) : Ins P (fun _ => True) (underlying t) := by
  show Ins P _ (Sem.program _); simp only [Ins, Sem.bind]; split <;> trivial
theorem ins_typeInfo (t : TypeId) : Ins P (fun _ => True) (typeInfo t) := by
  show Ins P _ (Sem.program _); simp only [Ins, Sem.bind]; split <;> trivial
theorem ins_sizeOf (t : TypeId) : Ins P (fun _ => True) (sizeOf t) := ins_bind' (ins_typeInfo t) fun _ => trivial
theorem ins_zeroValue (t : TypeId) : Ins P (fun _ => True) (zeroValue t) := ins_bind' (ins_typeInfo t) fun i => by split <;> trivial
theorem ins_isAgg (t : TypeId) : Ins P (fun _ => True) (isAgg t) := ins_bind' (ins_underlying t) fun d => by split <;> trivial
theorem ins_part (t : TypeId) (cs : Array Value) (off : Nat) : Ins P (fun _ => True) (part t cs off) :=
  ins_bind' (ins_isAgg t) fun b => by
    split
    · exact ins_bind' (ins_sizeOf t) fun _ => trivial
    · split <;> trivial
theorem ins_asIntOf (v : Value) : Ins P (fun _ => True) (asIntOf v) := by unfold asIntOf; split <;> trivial
theorem ins_asInt (v : Value) : Ins P (fun _ => True) (asInt v) := ins_bind' (ins_asIntOf v) fun _ => trivial
theorem ins_asBool (v : Value) : Ins P (fun _ => True) (asBool v) := by unfold asBool; split <;> trivial
theorem ins_asAgg (v : Value) : Ins P (fun _ => True) (asAgg v) := by unfold asAgg; split <;> trivial
theorem ins_sureAddr (v : Value) : Ins P (fun _ => True) (Instr.sureAddr v) := by unfold Instr.sureAddr; split <;> trivial

theorem dies_goPanic {α : Type} (v : Value) : Dies P (goPanic v : Sem α) := trivial
theorem ins_of_dies {α : Type} {ok : α → Prop} : ∀ (s : Sem α), Dies P s → Ins P ok s
  | .halt _, _ => trivial
  | .program k, h => ins_of_dies (k P) h
  | .choose _ _, h => fun n => h n
  | .mark _ k, h => ins_of_dies k h
  | .pure _, h => h.elim
  | .load .., h => h.elim
  | .store .., h => h.elim
  | .new .., h => h.elim
  | .shape .., h => h.elim
  | .freeze .., h => h.elim
  | .frozen .., h => h.elim
  | .getObj .., h => h.elim
  | .setObj .., h => h.elim
  | .sys .., h => h.elim
theorem ins_panicErr {α : Type} {ok : α → Prop} (m : String) : Ins P ok (runtimePanic (.error m) : Sem α) := trivial
theorem ins_panicNil {α : Type} {ok : α → Prop} : Ins P ok (runtimePanic .nilDeref : Sem α) := trivial
theorem dies_bounds {α : Type} (k : IntKind) (x y : Int) (c : BoundsCode) : Ins P (fun _ : α => True) (boundsPanic k x y c : Sem α) := by
  unfold boundsPanic
  split
  · exact fun n => by trivial
  · trivial

theorem ins_mapM {α β : Type} {f : α → Sem β} (hf : ∀ a, Ins P (fun _ => True) (f a)) : ∀ l : List α, Ins P (fun _ => True) (l.mapM f)
  | [] => by simp only [List.mapM_nil]; trivial
  | a :: l => by simp only [List.mapM_cons]; exact ins_bind' (hf a) fun b => ins_bind' (ins_mapM hf l) fun c => trivial
theorem ins_mapMArr {α β : Type} {f : α → Sem β} (hf : ∀ a, Ins P (fun _ => True) (f a)) (xs : Array α) : Ins P (fun _ => True) (xs.mapM f) := by
  rw [Array.mapM_eq_mapM_toList]; exact ins_bind' (ins_mapM hf _) fun _ => trivial

theorem ins_build (t : TypeId) (parts : Array (Nat × Value)) : Ins P (fun _ => True) (Instr.build t parts) := by
  unfold Instr.build
  refine ins_bind' (ins_zeroValue t) fun z => ins_bind' (ins_underlying t) fun d => ?_
  split
  · refine ins_bind' (ins_mapMArr (fun (f : Field) => ins_bind' (ins_sizeOf f.type) fun _ => ins_pure trivial) _) fun places => ?_
    split <;> trivial
  · refine ins_bind' (ins_sizeOf _) fun s => ?_
    split <;> trivial
  · trivial
theorem ins_field (t : TypeId) (x : Value) (f : Nat) : Ins P (fun _ => True) (Instr.field t x f) := by
  unfold Instr.field
  refine ins_bind' (ins_underlying t) fun d => ?_
  split
  · split
    · exact ins_bind' (ins_asAgg x) fun _ => ins_part _ _ _
    · trivial
  · trivial
theorem ins_index (t : TypeId) (x i : Value) : Ins P (fun _ => True) (Instr.index t x i) := by
  unfold Instr.index
  refine ins_bind' (ins_asIntOf i) fun ki => ins_bind' (ins_underlying t) fun d => ?_
  split
  · split
    · exact ins_bind' (ins_sizeOf _) fun _ => ins_part _ _ _
    · exact dies_bounds _ _ _ _
  · split
    · trivial
    · exact dies_bounds _ _ _ _
  · trivial
theorem ins_indexAt (t : TypeId) (x i : Value) : Ins P (fun _ => True) (Instr.indexAt t x i) := by
  unfold Instr.indexAt
  refine ins_bind' (ins_asIntOf i) fun ki => ins_bind' (ins_underlying t) fun d => ?_
  dsimp only
  split
  · refine ins_bind' (ins_sureAddr _) fun a => ins_bind' (ins_pure True.intro) fun y => ?_
    obtain ⟨base, len, elem⟩ := y
    refine ins_bind' (ins_underlying t) fun d' => ?_
    dsimp only
    split
    · split
      · exact ins_bind' (ins_sizeOf _) fun _ => True.intro
      · split <;> split <;> first | exact ins_unsupported _ | exact dies_bounds _ _ _ _
    · exact dies_bounds _ _ _ _
  · refine ins_bind' (ins_pure True.intro) fun y => ?_
    obtain ⟨base, len, elem⟩ := y
    refine ins_bind' (ins_underlying t) fun d' => ?_
    dsimp only
    split
    · split
      · exact ins_bind' (ins_sizeOf _) fun _ => True.intro
      · split <;> split <;> first | exact ins_unsupported _ | exact dies_bounds _ _ _ _
    · exact dies_bounds _ _ _ _
  · exact ins_stuck _
theorem ins_sliceBound (x : Value) (y : Nat) (c : BoundsCode) : Ins P (fun _ => True) (Instr.sliceBound x y c) := by
  unfold Instr.sliceBound
  refine ins_bind' (ins_asIntOf x) fun ki => ?_
  dsimp only
  split
  · trivial
  · exact dies_bounds _ _ _ _
theorem ins_sliceBounds (b : Bool) (n c : Nat) (lo hi mx : Option Value) : Ins P (fun _ => True) (Instr.sliceBounds b n c lo hi mx) := by
  unfold Instr.sliceBounds
  cases mx <;> cases hi <;> cases lo <;> dsimp only
  all_goals repeat' (first | with_reducible refine ins_bind' (ins_sliceBound _ _ _) fun _ => ?_ | with_reducible refine ins_bind' (ins_pure True.intro) fun _ => ?_ | with_reducible refine ins_bind' (ins_stuck _) fun _ => ?_ | with_reducible exact ins_pure True.intro)
theorem ins_asAddr (v : Value) : Ins P (fun _ => True) (asAddr v) := by unfold asAddr; split <;> trivial
theorem ins_slice (t : TypeId) (x : Value) (lo hi mx : Option Value) : Ins P (fun _ => True) (Instr.slice t x lo hi mx) := by
  unfold Instr.slice
  refine ins_bind' (ins_underlying t) fun d => ?_
  split
  · split
    · trivial
    · exact ins_bind' (ins_sliceBounds _ _ _ _ _ _) fun _ => trivial
  · exact ins_bind' (ins_sliceBounds _ _ _ _ _ _) fun _ => ins_bind' (ins_sizeOf _) fun _ => trivial
  · refine ins_bind' (ins_asAddr _) fun a => ins_bind' (ins_underlying _) fun d => ?_
    split
    · exact ins_bind' (ins_sliceBounds _ _ _ _ _ _) fun _ => ins_bind' (ins_sizeOf _) fun _ => trivial
    · trivial
  · trivial
theorem ins_sliceAt (t : TypeId) (x : Value) (lo hi mx : Option Value) : Ins P (fun _ => True) (Instr.sliceAt t x lo hi mx) := by
  unfold Instr.sliceAt
  refine ins_bind' (ins_underlying t) fun d => ?_
  split
  · exact ins_bind' (ins_sureAddr _) fun a => ins_bind' (ins_sliceBounds _ _ _ _ _ _) fun _ => ins_bind' (ins_sizeOf _) fun _ => trivial
  · exact ins_slice _ _ _ _ _
theorem ins_extract (x : Value) (i : Nat) : Ins P (fun _ => True) (Instr.extract x i) := by
  unfold Instr.extract; split
  · split <;> trivial
  · trivial
theorem ins_intArith (op : BinOp) (k : IntKind) (x y : Int) : Ins P (fun _ => True) (Op.intArith op k x y) := by unfold Op.intArith; split <;> trivial
theorem ins_intBits (op : BinOp) (k : IntKind) (x y : Int) : Ins P (fun _ => True) (Op.intBits op k x y) := by unfold Op.intBits; dsimp only; split <;> trivial
theorem ins_intDiv (op : BinOp) (k : IntKind) (x y : Int) : Ins P (fun _ => True) (Op.intDiv op k x y) := by
  unfold Op.intDiv; split
  · trivial
  · split <;> trivial
theorem ins_intCmp (op : BinOp) (x y : Int) : Ins P (fun _ => True) (Op.intCmp op x y) := by unfold Op.intCmp; split <;> trivial
theorem ins_shift (op : BinOp) (k j : IntKind) (x y : Int) : Ins P (fun _ => True) (Op.shift op k x j y) := by
  unfold Op.shift; split
  · trivial
  · dsimp only; split <;> trivial
theorem ins_stringOp (op : BinOp) (x y : ByteArray) : Ins P (fun _ => True) (Op.stringOp op x y) := by
  unfold Op.stringOp; dsimp only; split
  · split <;> trivial
  all_goals trivial
theorem ins_unary (op : UnOp) (x : Value) : Ins P (fun _ => True) (Op.unary op x) := by
  unfold Op.unary; split
  · exact ins_intArith _ _ _ _
  · exact ins_intBits _ _ _ _
  all_goals trivial
theorem ins_samePtr (a b : Option Addr) (h : a = none ∨ b = none) : Ins P (fun _ => True) (samePointer a b) := by
  rcases h with rfl | rfl
  · exact True.intro
  · cases a <;> exact True.intro
theorem ins_equal (t : TypeId) (x y : Value) (h : plainPair x y = true) : Ins P (fun _ => True) (Op.equal t x y) := by
  show Ins P _ (Op.equalIn (9999 + 1) t x y)
  unfold Op.equalIn
  refine ins_bind' (ins_underlying t) fun d => ?_
  cases x <;> cases y <;> try (simp only [plainPair, Bool.false_eq_true] at h; done)
  case pointer.pointer a b => cases a <;> cases b <;> first | (simp only [plainPair, Bool.false_eq_true] at h; done) | (split <;> first | trivial | (refine ins_samePtr _ _ ?_; simp_all; done) | (simp_all; done))
  all_goals (split <;> first | trivial | (split <;> trivial) | (simp_all; done))
theorem ins_binInt (op : BinOp) (t : TypeId) (k k' : IntKind) (a b : Int) : Ins P (fun _ => True) (binOp op t (.int k a) (.int k' b)) := by
  unfold binOp
  cases op <;> dsimp only
  case shl => exact ins_shift _ _ _ _ _
  case shr => exact ins_shift _ _ _ _ _
  all_goals (split <;> first | trivial | exact ins_intArith _ _ _ _ | exact ins_intDiv _ _ _ _ | exact ins_intBits _ _ _ _ | exact ins_intCmp _ _ _)
theorem ins_binOp (op : BinOp) (t : TypeId) (x y : Value) (h : plainBin op x y = true) : Ins P (fun _ => True) (binOp op t x y) := by
  cases x <;> cases y <;> try (simp only [plainBin, Bool.false_eq_true] at h; done)
  case int.int => exact ins_binInt _ _ _ _ _ _
  case string.string a b => have e : binOp op t (.string a) (.string b) = Op.stringOp op a b := by cases op <;> rfl
                            rw [e]; exact ins_stringOp _ _ _
  case bool.bool =>
    cases op <;> simp only [plainBin, isEq, Bool.false_eq_true] at h
    · exact ins_bind' (ins_equal _ _ _ rfl) fun _ => trivial
    · exact ins_bind' (ins_equal _ _ _ rfl) fun _ => trivial
  case slice.slice =>
    cases op <;> simp only [plainBin, isEq, Bool.false_eq_true] at h
    · exact ins_bind' (ins_equal _ _ _ rfl) fun _ => trivial
    · exact ins_bind' (ins_equal _ _ _ rfl) fun _ => trivial
  case pointer.pointer a b =>
    have hp : plainPair (.pointer a) (.pointer b) = true := by
      cases a <;> cases b <;> first | rfl | (simp only [plainBin, Bool.false_eq_true] at h)
    have hq : isEq op = true := by
      cases a <;> cases b <;> first | exact h | (simp only [plainBin, Bool.false_eq_true] at h)
    cases op <;> simp only [isEq, Bool.false_eq_true] at hq
    · exact ins_bind' (ins_equal _ _ _ hp) fun _ => trivial
    · exact ins_bind' (ins_equal _ _ _ hp) fun _ => trivial
theorem ins_eqGuard (op : BinOp) (t : TypeId) (x y : Operand) (a b : Value) (h : plainBin op a b = true) : Ins P (fun _ => True) (eqGuard op t x y a b) := by
  unfold eqGuard
  cases a <;> cases b <;> try (simp only [plainBin, Bool.false_eq_true] at h; done)
  all_goals (split <;> trivial)
end
end Go.Proofs.Qxb6500277aGreat
