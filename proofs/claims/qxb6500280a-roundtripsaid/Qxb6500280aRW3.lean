/- The tree in memory, as the printer sees it; kindOf; the leaves. -/
import Derived.Test.Qxb6500280aRW2
import Derived.Test.Qxb6500280aRT10
namespace Go.Proofs.Qxb6500280a
open Go Go.RowKit

/-- The nodes lie in block b. -/
def NT (w : World) (b : Nat) (ns : List Nd) : Prop := ∃ f, Blk w b (ns.length * 8) f ∧ NdP f ns
theorem NT.frame {w w' : World} {b : Nat} {ns : List Nd} {S : Nat → Prop} (h : NT w b ns) (k : Fr S w w') (hs : ¬ S b) : NT w' b ns := by
  obtain ⟨f, h1, h2⟩ := h
  exact ⟨f, h1.frame k hs, h2⟩
theorem NT.lt {w : World} {b : Nat} {ns : List Nd} (h : NT w b ns) : b < w.heap.size := by
  obtain ⟨f, h1, h2⟩ := h
  exact h1.lt
/-- l lies in ns from o on. -/
def Sub (ns : List Nd) (o : Nat) (l : List Nd) : Prop := ∀ j (h : j < l.length), ns[o + j]? = some l[j]
theorem Sub.app {ns : List Nd} {o : Nat} {a c : List Nd} (h : Sub ns o (a ++ c)) : Sub ns o a ∧ Sub ns (o + a.length) c := by
  refine ⟨fun j hj => ?_, fun j hj => ?_⟩
  · rw [h j (by simp; omega), List.getElem_append_left hj]
  · rw [Nat.add_assoc, h (a.length + j) (by simp; omega), List.getElem_append_right (by omega)]
    congr 2
    omega
theorem Sub.one {ns : List Nd} {o : Nat} {nd : Nd} (h : Sub ns o [nd]) : ∃ hl : o < ns.length, ns[o] = nd := by
  have := h 0 (by simp)
  simp only [Nat.add_zero, List.getElem_cons_zero] at this
  exact List.getElem?_eq_some_iff.1 this
theorem NT.node {w : World} {b : Nat} {ns : List Nd} (h : NT w b ns) {k : Nat} {nd : Nd} (hk : ∃ hl : k < ns.length, ns[k] = nd) :
    w.cell? ⟨b, k * 8, none⟩ = some (.int .i64 nd.kind) ∧ w.cell? ⟨b, k * 8 + 1, none⟩ = some (.int .i64 nd.a) ∧ w.cell? ⟨b, k * 8 + 2, none⟩ = some (.int .i64 nd.b) ∧ w.cell? ⟨b, k * 8 + 3, none⟩ = some (.int .i64 nd.c) ∧
      w.cell? ⟨b, k * 8 + 4, none⟩ = some (.int .i64 nd.nx) ∧ w.cell? ⟨b, k * 8 + 5, none⟩ = some (.int .i64 nd.val) ∧ w.cell? ⟨b, k * 8 + 6, none⟩ = some (.int .i64 nd.pos) ∧ w.cell? ⟨b, k * 8 + 7, none⟩ = some (.string nd.name) := by
  obtain ⟨f, h1, h2⟩ := h
  obtain ⟨hk, rfl⟩ := hk
  exact h1.node h2 hk (by omega)
/-- The tree's value. -/
def trV (b n : Nat) (r e q : Int) : Value := treeV (.slice (some ⟨b, 0, none⟩) n n) r e q
set_option maxRecDepth 100000 in
set_option maxHeartbeats 4000000 in
theorem kindX {w : World} {b : Nat} {ns : List Nd} {r e q : Int} {x : Nat} {lim : Int} {nd : Nd} (hn : NT w b ns) (hx : ∃ hl : x < ns.length, ns[x] = nd) (hlim : (x : Int) < lim) :
    Calls Try.prog 81 #[trV b ns.length r e q, .int .i64 x, .int .i64 lim] w fun v w' => v = .returned (.int .i64 nd.kind) ∧ Fr (fun _ => False) w w' := by
  obtain ⟨m0, m1, m2, m3, m4, m5, m6, m7⟩ := hn.node hx
  have lb := hn.lt
  have hxl := hx.1
  have z1 : decide (lim ≤ (x : Int)) = false := decide_eq_false (by omega)
  have z2 : decide (x < ns.length) = true := decide_eq_true hxl
  have z3 : decide ((x : Int) < (ns.length : Int)) = true := decide_eq_true (by omega)
  clear hn hx hlim
  unfold trV treeV
  go_enter Try.func81, Try.ntmps81
  go_wp2_with fail
  go_ret
  exact ⟨rfl, (Fr.refl _ _).alloc _⟩
/-- What exprText answers for the tree e that lies from o on. -/
def EC (e : Exp) : Prop := ∀ (w : World) (b : Nat) (ns : List Nd) (r er q : Int) (o : Nat) (nx lim : Int), NT w b ns → ns.length ≤ 200 → Sub ns o (flE o nx e) → NE e → (∃ lv d, OkE lv d e) → rtE o e < lim →
  Calls Try.prog 63 #[trV b ns.length r er q, .int .i64 (rtE o e), .int .i64 lim] w fun v w' => (∃ s : ByteArray, v = .returned (.string s) ∧ s.data.toList = prB e) ∧ Fr (fun _ => False) w w'
set_option maxRecDepth 100000 in
set_option maxHeartbeats 4000000 in
theorem ec_num (v p : Int) : EC (.num v p) := fun w b ns r er q o nx lim hn hl hs he ho hlim => by
  simp only [flE] at hs
  simp only [NE] at he
  rw [rt_one o 0 (.num v p) rfl, Nat.add_zero] at hlim ⊢
  have hx := hs.one
  obtain ⟨m0, m1, m2, m3, m4, m5, m6, m7⟩ := hn.node hx
  have lb := hn.lt
  have hxl := hx.1
  have z1 : decide (lim ≤ (o : Int)) = false := decide_eq_false (by omega)
  have z2 : decide (o < ns.length) = true := decide_eq_true hxl
  have z3 : decide ((o : Int) < (ns.length : Int)) = true := decide_eq_true (by omega)
  have He : Hid _ := he
  clear hn hx hlim hs he ho
  unfold trV treeV
  go_enter Try.func63, Try.ntmps63
  go_wp2_with fail
  refine (digitsF He.out _).mono ?_
  rintro e w3 ⟨⟨s, rfl, hs⟩, rfl⟩
  go_wp2_with fail
  go_ret
  exact ⟨⟨_, rfl, by simpa [prB] using hs⟩, ((Fr.refl _ _).alloc _).alloc _⟩
end Go.Proofs.Qxb6500280a
