/- The code generator: expr, statements: the plain side. -/
import Derived.Test.Qxb6500277aGreatGE13
namespace Go.Proofs.Qxb6500277aGreat
open Go Go.RowKit

def addS (P0 : Pg) (B : Gb) (b : Nat) (x : Stm) : Gb := { B with code := B.code ++ cS P0 (fun _ => 0) B.code.length b x, calls := B.calls ++ fxS P0 B.code.length b x }
def addSs (P0 : Pg) (B : Gb) (b : Nat) (x : Stms) : Gb := { B with code := B.code ++ cSs P0 (fun _ => 0) B.code.length b x, calls := B.calls ++ fxSs P0 B.code.length b x }
theorem addS_len (P0 : Pg) (B : Gb) (b : Nat) (x : Stm) : (addS P0 B b x).code.length = B.code.length + nS x := by simp [addS, cS_len]
theorem addSs_len (P0 : Pg) (B : Gb) (b : Nat) (x : Stms) : (addSs P0 B b x).code.length = B.code.length + nSs x := by simp [addSs, cSs_len]
/-- A jump with a hole. -/
def addJ (B : Gb) (o : Nat) : Gb := { B with code := B.code ++ (o :: u16b 0), holes := B.holes ++ [((B.code.length + 1 : Nat) : Int)] }
theorem addJ_len (B : Gb) (o : Nat) : (addJ B o).code.length = B.code.length + 3 := by simp [addJ, u16b]
theorem addE_holes (P0 : Pg) (B : Gb) (b : Nat) (e : Exp) : (addE P0 B b e).holes = B.holes := rfl
theorem addSs_holes (P0 : Pg) (B : Gb) (b : Nat) (e : Stms) : (addSs P0 B b e).holes = B.holes := rfl
/-- A block whose statements have at most n nodes. -/
def BkG (G : Ge) (ret : Int) (n : Nat) : Prop := ∀ (ss : Stms), szSs ss ≤ n → TySs ss → ∀ (w : World) (P : Nat → Prop) (B : Gb) (b x : Nat) (p : Int), GX w G.g P G.hd B → G.Cv w P → Lie G.ns b (flSs b ss) → G.ns[x]? = some ⟨2, hdS b ss, -1, -1, -1, 0, p, ⟨#[]⟩⟩ → WtSs G.P0 G.li G.lr ret b ss → B.code.length + nSs ss ≤ 39000 → Calls Tryz.prog 95 #[.pointer (some ⟨G.g, 0, none⟩), .int .i64 (x : Nat)] w (EmR w G.g P G.hd (addSs G.P0 B b ss))
def StG (G : Ge) (ret : Int) (n : Nat) : Prop := ∀ (x : Stm), szS x ≤ n → TyS x → ∀ (w : World) (P : Nat → Prop) (B : Gb) (b : Nat) (nx xi : Int), GX w G.g P G.hd B → G.Cv w P → Lie G.ns b (flS b nx x) → xi = rtS b x → WtS G.P0 G.li G.lr ret b x → B.code.length + nS x ≤ 39000 → Calls Tryz.prog 152 #[.pointer (some ⟨G.g, 0, none⟩), .int .i64 xi] w (EmR w G.g P G.hd (addS G.P0 B b x))
theorem iff_eq (P0 : Pg) (B : Gb) (b : Nat) (p q : Int) (e : Exp) (ss : Stms) (B3 : Gb) (h3 : B3 = addSs P0 (addJ (addE P0 B b e) 22) (b + szE e) ss) : ({ B3 with code := fillL B3.code ((addE P0 B b e).code.length + 1) B3.code.length, holes := B.holes } : Gb) = addS P0 B b (.iff p e q ss) := by
  have h1 : B3.code = (addE P0 B b e).code ++ (22 :: 0 :: 0 :: cSs P0 (fun _ => 0) (B.code.length + nE e + 3) (b + szE e) ss) := by rw [h3]; simp [addSs, addJ, addE, u16b, cE_len, Nat.add_assoc]
  have h2 : B3.code.length = B.code.length + nE e + 3 + nSs ss := by rw [h3, addSs_len, addJ_len, addE_len]
  rw [h2, h1, fillL_at, h3]
  simp [addS, cS, fxS, addSs, addJ, addE, u16b, cE_len, Nat.add_assoc]
theorem whl_eq (P0 : Pg) (B : Gb) (b : Nat) (p q : Int) (e : Exp) (ss : Stms) (B3 : Gb) (h3 : B3 = addSs P0 (addJ (addE P0 B b e) 22) (b + szE e) ss) : ({ B3 with code := fillL (B3.code ++ (21 :: u16b B.code.length)) ((addE P0 B b e).code.length + 1) (B3.code ++ (21 :: u16b B.code.length)).length, holes := B.holes } : Gb) = addS P0 B b (.whl p e q ss) := by
  have h1 : B3.code ++ (21 :: u16b B.code.length) = (addE P0 B b e).code ++ (22 :: 0 :: 0 :: (cSs P0 (fun _ => 0) (B.code.length + nE e + 3) (b + szE e) ss ++ (21 :: u16b B.code.length))) := by rw [h3]; simp [addSs, addJ, addE, u16b, cE_len, Nat.add_assoc]
  have h2 : (B3.code ++ (21 :: u16b B.code.length)).length = B.code.length + nE e + 3 + nSs ss + 3 := by rw [List.length_append, h3, addSs_len, addJ_len, addE_len]; simp [u16b]
  rw [h2, h1, fillL_at, h3]
  simp [addS, cS, fxS, addSs, addJ, addE, u16b, cE_len, Nat.add_assoc]
theorem ife_eq (P0 : Pg) (B : Gb) (b : Nat) (p q r : Int) (e : Exp) (ss cs : Stms) (B3 B4 B5 : Gb) (h3 : B3 = addSs P0 (addJ (addE P0 B b e) 22) (b + szE e) ss) (h4 : B4 = { B3 with code := fillL (B3.code ++ (21 :: u16b 0)) ((addE P0 B b e).code.length + 1) (B3.code.length + 3), holes := B.holes ++ [((B3.code.length + 1 : Nat) : Int)] }) (h5 : B5 = addSs P0 B4 (b + szE e + (szSs ss + 1)) cs) : ({ B5 with code := fillL B5.code (B3.code.length + 1) B5.code.length, holes := B.holes } : Gb) = addS P0 B b (.ife p e q ss r cs) := by
  have h1 : B3.code ++ (21 :: u16b 0) = (addE P0 B b e).code ++ (22 :: 0 :: 0 :: (cSs P0 (fun _ => 0) (B.code.length + nE e + 3) (b + szE e) ss ++ (21 :: u16b 0))) := by rw [h3]; simp [addSs, addJ, addE, u16b, cE_len, Nat.add_assoc]
  have h2 : B3.code.length = B.code.length + nE e + 3 + nSs ss := by rw [h3, addSs_len, addJ_len, addE_len]
  have h6 : B4.code = ((addE P0 B b e).code ++ (22 :: (u16b (B.code.length + nE e + 3 + nSs ss + 3) ++ cSs P0 (fun _ => 0) (B.code.length + nE e + 3) (b + szE e) ss))) ++ (21 :: 0 :: 0 :: []) := by
    rw [h4]
    show fillL (B3.code ++ (21 :: u16b 0)) ((addE P0 B b e).code.length + 1) (B3.code.length + 3) = _
    rw [h1, fillL_at, h2]
    simp [u16b]
  have h7 : ((addE P0 B b e).code ++ (22 :: (u16b (B.code.length + nE e + 3 + nSs ss + 3) ++ cSs P0 (fun _ => 0) (B.code.length + nE e + 3) (b + szE e) ss))).length = B3.code.length := by rw [h2]; simp [u16b, cSs_len, addE_len]; omega
  have h8 : B4.code.length = B.code.length + nE e + 3 + nSs ss + 3 := by rw [h6, List.length_append, h7, h2]; rfl
  have h9 : B5.code = ((addE P0 B b e).code ++ (22 :: (u16b (B.code.length + nE e + 3 + nSs ss + 3) ++ cSs P0 (fun _ => 0) (B.code.length + nE e + 3) (b + szE e) ss))) ++ (21 :: 0 :: 0 :: cSs P0 (fun _ => 0) (B.code.length + nE e + 3 + nSs ss + 3) (b + szE e + (szSs ss + 1)) cs) := by
    rw [h5]
    show B4.code ++ cSs P0 (fun _ => 0) B4.code.length (b + szE e + (szSs ss + 1)) cs = _
    rw [h8, h6]; simp
  have h10 : B5.code.length = B.code.length + nE e + 3 + nSs ss + 3 + nSs cs := by rw [h5, addSs_len, h8]
  have h11 := fillL_at ((addE P0 B b e).code ++ (22 :: (u16b (B.code.length + nE e + 3 + nSs ss + 3) ++ cSs P0 (fun _ => 0) (B.code.length + nE e + 3) (b + szE e) ss))) (cSs P0 (fun _ => 0) (B.code.length + nE e + 3 + nSs ss + 3) (b + szE e + (szSs ss + 1)) cs) 21 (B.code.length + nE e + 3 + nSs ss + 3 + nSs cs)
  rw [h7] at h11
  have h12 : B5.calls = B.calls ++ (fxE P0 B.code.length b e ++ (fxSs P0 (B.code.length + nE e + 3) (b + szE e) ss ++ fxSs P0 (B.code.length + nE e + 3 + nSs ss + 3) (b + szE e + (szSs ss + 1)) cs)) := by
    rw [h5]
    show B4.calls ++ fxSs P0 B4.code.length (b + szE e + (szSs ss + 1)) cs = _
    rw [h8, h4]
    show B3.calls ++ _ = _
    rw [h3]
    simp [addSs, addJ, addE, u16b, cE_len, Nat.add_assoc]
  have h13 : B5.entry = B.entry := by rw [h5]; show B4.entry = _; rw [h4]; show B3.entry = _; rw [h3]; rfl
  rw [h10, h12, h13, h9, h11]
  simp [addS, cS, fxS, addE, u16b, Nat.add_assoc]
end Go.Proofs.Qxb6500277aGreat
