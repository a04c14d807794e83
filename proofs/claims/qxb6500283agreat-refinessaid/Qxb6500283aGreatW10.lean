/- refused, Core. -/
import Derived.Test.Qxb6500283aGreatW8
import Derived.Test.Qxb6500283aGreatW9d
import Derived.Test.Qxb6500283aGreatC13
import Derived.Test.Qxb6500283aGreatS7
namespace Go.Proofs.Qxb6500283aGreat
open Go Go.RowKit

theorem answers {p : ByteArray} {o o' : Ans} (h : EndsL p o) (h' : ModelL p o') : o = o' := by
  rcases h with ⟨h1, rfl⟩ | ⟨h1, h2⟩
  · rcases h' with ⟨_, rfl⟩ | ⟨h3, _⟩
    · rfl
    · omega
  · rcases h' with ⟨h3, _⟩ | ⟨_, h4⟩
    · omega
    · exact (model_real h4 h2).symm
/-- The model answers every pattern. -/
theorem modelL_ex (w : World) (p : ByteArray) : ∃ o, ModelL p o := by
  have hb : Blk (w.alloc (.cells #[.int .i64 0] 0)) w.heap.size 1 (fun _ => .int .i64 ((0 : Nat) : Int)) := Blk.new w _ _ _ fun o ho => by
    obtain rfl : o = 0 := by simpa using ho
    rfl
  obtain ⟨_, _, _, ⟨o, h, _⟩, _⟩ := parseM_any hb (by omega) p []
  exact ⟨o, h⟩
theorem EndsL.model (w : World) {p : ByteArray} {o : Ans} (h : EndsL p o) : ModelL p o := by
  obtain ⟨o', h'⟩ := modelL_ex w p
  rw [answers h h']
  exact h'
/-- What a parsed tree is. -/
structure TreeOk (ns : List Nd) (y : Nat) : Prop where
  wf : WF ns
  len : ns.length ≤ 24
  root : y + 1 = ns.length
  rb : ∀ k (h : k < ns.length), RB ns[k]
  cb : ∀ k (h : k < ns.length), 0 ≤ ns[k].cap
theorem ModelL.tree {p : ByteArray} {ns : List Nd} {y g : Nat} (h : ModelL p (.ok (ns, y, g))) : TreeOk ns y ∧ g ≤ 3 := by
  rcases h with ⟨_, h⟩ | ⟨_, h⟩
  · cases h
  · have h1 := h.ok'
    exact ⟨⟨h1.1, h1.2.2.1, h1.2.2.2.1, h.rb, h.cb⟩, h1.2.2.2.2⟩
theorem ModelL.err {p : ByteArray} {e : Er} (h : ModelL p (.error e)) : e.1 ≠ 0 := by
  rcases h with ⟨_, h⟩ | ⟨_, h⟩
  · cases h; simp
  · exact h.ok'.1
def coreL (ns : List Nd) (y : Nat) : List Nd := chdW (zz ns y) (bld ns y) 0
def coreO (o : Ans) : Ans := match o with
  | .error e => .error e
  | .ok (ns, y, g) => if 31 < (zz ns y).2 then .error (8, 0) else .ok (coreL ns y, (coreL ns y).length - 1, g)
theorem coreL_len {ns : List Nd} {y : Nat} (h : TreeOk ns y) (hz : (zz ns y).2 ≤ 31) : 1 ≤ (coreL ns y).length ∧ (coreL ns y).length ≤ 31 := by
  have h0 := core_main h.wf h.rb y (by have := h.root; omega)
  have h1 := h0.chd.2
  have h2 := h0.chd.1.ne
  unfold coreL
  rw [h1] at hz
  refine ⟨?_, ?_⟩
  · exact h2
  · unfold lidN at hz
    split at hz <;> omega
def SAt (s b : Nat) : Prop := s ≤ b ∧ b ≤ s + 5
def SAny (w : World) (s x : Nat) : Prop := (∃ out, out.length ≤ 31 ∧ SM w s x out [] []) ∧ ZM w s [] 0 ∧ RAny w x ⟨#[]⟩ ∧ ¬ SAt s x
theorem SAny.frame {S : Nat → Prop} {w w' : World} {s x : Nat} (h : SAny w s x) (k : Fr S w w') (hx : ¬ S x) (hs : ∀ b, SAt s b → ¬ S b) : SAny w' s x := by
  obtain ⟨⟨out, a, b⟩, c, d, e⟩ := h
  refine ⟨⟨out, a, b.frame k (fun b hb => hs b ?_)⟩, c.frame k (hs _ ?_) (hs _ ?_), d.frame k hx, e⟩
  all_goals unfold SAt
  · unfold SBld at hb; omega
  all_goals omega
theorem ZM.zero {w : World} {s : Nat} {ns : List Nd} (h : ZM w s ns 0) (ns' : List Nd) : ZM w s ns' 0 := by
  obtain ⟨f1, f2, a, b, _⟩ := h
  exact ⟨f1, f2, a, b, fun k hk => absurd hk (Nat.not_lt_zero _)⟩
theorem ZM.zero' {w : World} {s m : Nat} {ns : List Nd} (h : ZM w s ns m) (ns' : List Nd) : ZM w s ns' 0 := by
  obtain ⟨f1, f2, a, b, _⟩ := h
  exact ⟨f1, f2, a, b, fun k hk => absurd hk (Nat.not_lt_zero _)⟩
set_option maxRecDepth 100000 in
set_option maxHeartbeats 4000000 in
theorem refused_any (w : World) (e : Int) (q : Nat) : Calls Tryz.prog 83 #[.int .i64 e, .int .i64 (q : Nat)] w fun v w' => v = .returned (trErr (e, q)) ∧ Fr (fun _ => False) w w' := by
  go_enter Tryz.func83, Tryz.ntmps83
  go_wp2_with fail
  exact bodyPost_ret (v := trErr (e, q)) (by simp [results, Tryz.results83, go_sem, trErr]) rfl ⟨rfl, (Fr.refl _ _).alloc _⟩
end Go.Proofs.Qxb6500283aGreat
