/- The tree of a text: numbers in range, its size. -/
import Derived.Test.Qxb6500277aGreatGN1
import Derived.Test.Qxb6500277aGreatGP25
namespace Go.Proofs.Qxb6500277aGreat
open Go Go.RowKit

def AllW (l : List Nd) : Prop := ∀ nd ∈ l, NW nd
theorem AllW.l {a b : List Nd} (h : AllW (a ++ b)) : AllW a := fun x hx => h x (List.mem_append_left _ hx)
theorem AllW.r {a b : List Nd} (h : AllW (a ++ b)) : AllW b := fun x hx => h x (List.mem_append_right _ hx)
mutual
theorem nmE : (e : Exp) → ∀ (b : Nat) (nx : Int), AllW (flE b nx e) → NmE e
  | .num v p, b, nx, h => by
    have := (h ⟨10, -1, -1, -1, nx, v, p, ⟨#[]⟩⟩ (by simp [flE])).1 rfl
    simp only [NmE] at this ⊢
    omega
  | .boo v p, b, nx, h => by
    have := (h ⟨11, -1, -1, -1, nx, v, p, ⟨#[]⟩⟩ (by simp [flE])).2 rfl
    simp only [NmE] at this ⊢
    exact this
  | .var .., b, nx, h | .rd .., b, nx, h => by simp only [NmE]
  | .call _ _ gs, b, nx, h => by
    simp only [flE] at h
    simp only [NmE]
    exact nmEs gs b h.l
  | .idx _ x y, b, nx, h => by
    simp only [flE] at h
    simp only [NmE]
    exact ⟨nmE x b _ h.l.l, nmE y _ _ h.l.r⟩
  | .bin _ _ x y, b, nx, h => by
    simp only [flE] at h
    simp only [NmE]
    exact ⟨nmE x b _ h.l.l, nmE y _ _ h.l.r⟩
  | .new _ _ e, b, nx, h | .len _ e, b, nx, h | .un _ _ e, b, nx, h => by
    simp only [flE] at h
    simp only [NmE]
    exact nmE e b _ h.l
theorem nmEs : (es : Exps) → ∀ (b : Nat), AllW (flEs b es) → NmEs es
  | .nil, b, h => by simp only [NmEs]
  | .cons e es, b, h => by
    simp only [flEs] at h
    simp only [NmEs]
    exact ⟨nmE e b _ h.l, nmEs es _ h.r⟩
end
mutual
theorem nmS : (x : Stm) → ∀ (d b : Nat) (nx : Int), OkS d x → AllW (flS b nx x) → NmS x
  | .vd _ _ _ e, d, b, nx, o, h | .ret _ e, d, b, nx, o, h | .prt _ e, d, b, nx, o, h | .exp e, d, b, nx, o, h => by
    simp only [flS] at h
    simp only [NmS]
    exact nmE e b _ h.l
  | .asg _ x y, d, b, nx, o, h => by
    simp only [flS] at h
    simp only [OkS] at o
    simp only [NmS]
    exact ⟨o.1, nmE x b _ h.l.l, nmE y _ _ h.l.r⟩
  | .iff _ e _ ss, d, b, nx, o, h => by
    simp only [flS] at h
    simp only [OkS] at o
    simp only [NmS]
    exact ⟨nmE e b _ h.l.l, nmSs ss _ _ o.2.2 h.l.r.l⟩
  | .whl _ e _ ss, d, b, nx, o, h => by
    simp only [flS] at h
    simp only [OkS] at o
    simp only [NmS]
    exact ⟨nmE e b _ h.l.l, nmSs ss _ _ o.2.2 h.l.r.l⟩
  | .ife _ e _ ss _ cs, d, b, nx, o, h => by
    simp only [flS] at h
    simp only [OkS] at o
    simp only [NmS]
    exact ⟨nmE e b _ h.l.l.l, nmSs ss _ _ o.2.2.1 h.l.l.r.l, nmSs cs _ _ o.2.2.2 h.l.r.l⟩
theorem nmSs : (xs : Stms) → ∀ (d b : Nat), OkSs d xs → AllW (flSs b xs) → NmSs xs
  | .nil, d, b, o, h => by simp only [NmSs]
  | .cons x xs, d, b, o, h => by
    simp only [flSs] at h
    simp only [OkSs] at o
    simp only [NmSs]
    exact ⟨nmS x d b _ o.1 h.l, nmSs xs d _ o.2 h.r⟩
end
theorem nmFs : ∀ (gs : List Fnc) (b : Nat), (∀ f ∈ gs, OkF f) → AllW (flFs b gs) → ∀ f ∈ gs, NmSs f.ss
  | [], b, o, h => fun f hf => by cases hf
  | g :: r, b, o, h => fun f hf => by
    simp only [flFs] at h
    rcases List.mem_cons.1 hf with rfl | hf
    · have q := h.l
      unfold flF flB at q
      exact nmSs _ 1 _ (o f (by simp)).2.2 q.l.r.l
    · exact nmFs r _ (fun x hx => o x (by simp [hx])) h.r f hf
theorem ans_nums {src : ByteArray} {ns : List Nd} {root pos : Int} (h : Ans src ns root 0 pos) : NsW ns := by
  rcases h with ⟨h0, _, _, h1, _⟩ | ⟨h0, ⟨_, h1, _, _⟩ | ⟨j, a, _, _⟩⟩
  · exact absurd h1.symm h0
  · exact absurd rfl h1
  · exact nodesW (fun i => ansTs_w h0 i) a
/-- A text that the checker takes. -/
theorem src_chk {src : ByteArray} {X : Cx} {s : Ck} {m : Nat} (h : Ans src (flFs 0 (treeOf src)) (hdF 0 (treeOf src)) 0 0) (hc : ckAll (treeOf src) src.size = .ok X s m) : Chk (treeOf src) X s m := by
  obtain ⟨h1, _⟩ := treeOf_spec h
  have hw := ans_nums h
  exact cmp_ok hc h1 (nmFs _ 0 h1 hw.1) (by have := hw.2; rw [flFs_len] at this; exact this)
end Go.Proofs.Qxb6500277aGreat
