/- The code generator: node, class, binOp, store. -/
import Derived.Test.Qxb6500277aGreatGE7
import Derived.Test.Qxb6500277aGreatCB6
namespace Go.Proofs.Qxb6500277aGreat
open Go Go.RowKit

/-- What the checker said, read by the engine. -/
structure Cv (w : World) (P : Nat → Prop) (hd : Nat → Value) (ns : List Nd) (ty rf : List Int) (rs : List FR) : Prop where
  an : AnsM w (hd 2) (hd 6) (hd 7) (hd 8) ns ty rf rs
  bl : ∀ b, inB4 (hd 2) (hd 6) (hd 7) (hd 8) b → b < w.heap.size ∧ ¬ P b
  tl : ty.length = ns.length
  rl : rf.length = ns.length
section
variable {w w' w0 w1 w2 : World} {g : Nat} {P P' S : Nat → Prop} {hd : Nat → Value} {B B' : Gb} {cv hv xv ev : Value} {col : Nat → Nat} {ns : List Nd} {ty rf : List Int} {rs : List FR}
theorem Cv.em (h : Cv w0 P hd ns ty rf rs) (k : Em w0 P g hd w B) : Cv w (Gw P w0 w) hd ns ty rf rs :=
  ⟨h.an.frame k.2.1 fun b hb => (h.bl b hb).2, fun b hb => ⟨Nat.lt_of_lt_of_le (h.bl b hb).1 k.2.1.size, fun hg => hg.elim (h.bl b hb).2 fun hg => by have := (h.bl b hb).1; omega⟩, h.tl, h.rl⟩
theorem Cv.same (h : Cv w P hd ns ty rf rs) (k : Fr (fun _ => False) w w') : Cv w' P hd ns ty rf rs :=
  ⟨h.an.frame k fun _ _ => id, fun b hb => ⟨Nat.lt_of_lt_of_le (h.bl b hb).1 k.size, (h.bl b hb).2⟩, h.tl, h.rl⟩
theorem Em.blk (k : Em w0 P g hd w B) {b n : Nat} {f : Nat → Value} (h : Blk w0 b n f) (hb : ¬ P b) : Blk w b n f := h.frame k.2.1 hb
/-- A number of the types. -/
theorem ILV.at {v : Value} {l : List Int} (h : ILV w v l) {i : Nat} (hi : i < l.length) : ∃ b, v = .slice (some ⟨b, 0, none⟩) l.length l.length ∧ b < w.heap.size ∧ w.cell? ⟨b, i, none⟩ = some (.int .i64 (l.getD i (-1))) := by
  rcases h with ⟨_, rfl⟩ | ⟨b, rfl, h1, h2⟩
  · simp at hi
  · refine ⟨b, rfl, h1.lt, ?_⟩
    rw [h1.cell hi]
    unfold iL
    simp [List.getD_eq_getElem?_getD, hi]
theorem NLV.at {v : Value} (h : NLV w v ns) {k : Nat} {nd : Nd} (hk : ns[k]? = some nd) : ∃ b, v = .slice (some ⟨b, 0, none⟩) ns.length ns.length ∧ b < w.heap.size ∧ k < ns.length ∧ w.cell? ⟨b, k * 8, none⟩ = some (.int .i64 nd.kind) ∧ w.cell? ⟨b, k * 8 + 1, none⟩ = some (.int .i64 nd.a) ∧ w.cell? ⟨b, k * 8 + 2, none⟩ = some (.int .i64 nd.b) ∧ w.cell? ⟨b, k * 8 + 3, none⟩ = some (.int .i64 nd.c) ∧ w.cell? ⟨b, k * 8 + 4, none⟩ = some (.int .i64 nd.nx) ∧ w.cell? ⟨b, k * 8 + 5, none⟩ = some (.int .i64 nd.val) ∧ w.cell? ⟨b, k * 8 + 6, none⟩ = some (.int .i64 nd.pos) ∧ w.cell? ⟨b, k * 8 + 7, none⟩ = some (.string nd.name) := by
  obtain ⟨hk', e⟩ := List.getElem?_eq_some_iff.1 hk
  rcases h with ⟨_, rfl⟩ | ⟨b, f, rfl, h1, h2, _⟩
  · simp at hk'
  · have c := h1.node h2 hk' (by omega)
    rw [e] at c
    exact ⟨b, rfl, h1.lt, hk', c⟩
end
set_option maxRecDepth 100000 in
set_option maxHeartbeats 1000000 in
theorem nodeG {w : World} {g : Nat} {P : Nat → Prop} {hd : Nat → Value} {B : Gb} {ns : List Nd} {ty rf : List Int} {rs : List FR} (h : GX w g P hd B) (hc : Cv w P hd ns ty rf rs) {k : Nat} {nd : Nd} (hk : ns[k]? = some nd) : Calls Tryz.prog 94 #[.pointer (some ⟨g, 0, none⟩), .int .i64 (k : Nat)] w fun e w' => e = .returned (ndV nd) ∧ Fr (fun _ => False) w w' := by
  obtain ⟨cv, hv, xv, ev, col, H⟩ := h
  have c2 : w.cell? ⟨g, 2, none⟩ = some (hd 2) := H.cl (o := 2) (by omega)
  have hlt := H.glt
  have hz := H.blk.frozen
  have hnl := hc.an.nl
  obtain ⟨b, e1, e2, hk', n0, n1, n2, n3, n4, n5, n6, n7⟩ := NLV.at hc.an.hv hk
  rw [e1] at c2
  have hkl : (k : Int) < ns.length := by omega
  obtain ⟨kd, ka, kb, kc, kx, kv, kp, kn⟩ := nd
  clear H hc e1 hk
  go_enter Tryz.func94, Tryz.ntmps94
  go_wp2_with fail
  exact bodyPost_ret (v := ndV ⟨kd, ka, kb, kc, kx, kv, kp, kn⟩) (by simp [results, Tryz.results94, go_sem, ndV]) rfl ⟨rfl, (Fr.refl _ _).alloc _⟩
set_option maxRecDepth 100000 in
set_option maxHeartbeats 1000000 in
theorem classF (t : Int) (a b : Nat) (w : World) : Calls Tryz.prog 98 #[.int .i64 t, .int .i64 (a : Nat), .int .i64 (b : Nat)] w fun e w' => e = .returned (.int .i64 (clsO t a b : Nat)) ∧ w' = w := by
  unfold clsO
  by_cases h : 2 ≤ t
  · have h1 : decide (t ≥ 2) = true := decide_eq_true h
    rw [if_pos h]
    go_enter Tryz.func98, Tryz.ntmps98
    go_wp2_with fail
    go_ret
    exact ⟨rfl, rfl⟩
  · have h1 : decide (t ≥ 2) = false := decide_eq_false h
    have h2 : decide (2 ≤ t) = false := decide_eq_false h
    rw [if_neg h]
    go_enter Tryz.func98, Tryz.ntmps98
    go_wp2_with fail
    go_ret
    exact ⟨rfl, rfl⟩
set_option maxRecDepth 100000 in
set_option maxHeartbeats 1000000 in
theorem binOpF (k : Int) (w : World) : Calls Tryz.prog 237 #[.int .i64 k] w fun e w' => e = .returned (.int .i64 (opB k : Nat)) ∧ w' = w := by
  unfold opB
  by_cases h1 : k = 32
  · subst h1; go_enter Tryz.func237, Tryz.ntmps237; go_wp2_with fail; go_ret; exact ⟨rfl, rfl⟩
  by_cases h2 : k = 33
  · subst h2; go_enter Tryz.func237, Tryz.ntmps237; go_wp2_with fail; go_ret; exact ⟨rfl, rfl⟩
  by_cases h3 : k = 34
  · subst h3; go_enter Tryz.func237, Tryz.ntmps237; go_wp2_with fail; go_ret; exact ⟨rfl, rfl⟩
  by_cases h4 : k = 35
  · subst h4; go_enter Tryz.func237, Tryz.ntmps237; go_wp2_with fail; go_ret; exact ⟨rfl, rfl⟩
  by_cases h5 : k = 36
  · subst h5; go_enter Tryz.func237, Tryz.ntmps237; go_wp2_with fail; go_ret; exact ⟨rfl, rfl⟩
  by_cases h6 : k = 26
  · subst h6; go_enter Tryz.func237, Tryz.ntmps237; go_wp2_with fail; go_ret; exact ⟨rfl, rfl⟩
  by_cases h7 : k = 27
  · subst h7; go_enter Tryz.func237, Tryz.ntmps237; go_wp2_with fail; go_ret; exact ⟨rfl, rfl⟩
  by_cases h8 : k = 28
  · subst h8; go_enter Tryz.func237, Tryz.ntmps237; go_wp2_with fail; go_ret; exact ⟨rfl, rfl⟩
  by_cases h9 : k = 29
  · subst h9; go_enter Tryz.func237, Tryz.ntmps237; go_wp2_with fail; go_ret; exact ⟨rfl, rfl⟩
  by_cases h10 : k = 30
  · subst h10; go_enter Tryz.func237, Tryz.ntmps237; go_wp2_with fail; go_ret; exact ⟨rfl, rfl⟩
  rw [if_neg h1, if_neg h2, if_neg h3, if_neg h4, if_neg h5, if_neg h6, if_neg h7, if_neg h8, if_neg h9, if_neg h10]
  replace h1 : (k == 32) = false := by simpa using h1
  replace h2 : (k == 33) = false := by simpa using h2
  replace h3 : (k == 34) = false := by simpa using h3
  replace h4 : (k == 35) = false := by simpa using h4
  replace h5 : (k == 36) = false := by simpa using h5
  replace h6 : (k == 26) = false := by simpa using h6
  replace h7 : (k == 27) = false := by simpa using h7
  replace h8 : (k == 28) = false := by simpa using h8
  replace h9 : (k == 29) = false := by simpa using h9
  replace h10 : (k == 30) = false := by simpa using h10
  go_enter Tryz.func237, Tryz.ntmps237
  go_wp2_with fail
  go_ret
  exact ⟨rfl, rfl⟩
/-- A reference that is in range is a number. -/
theorem rfA_get {P0 : Pg} {x n : Nat} (h : rfA P0 x < n) (hn : n ≤ 100000) : P0.rf.getD x (-1) = (rfA P0 x : Nat) := by
  unfold rfA at *
  split at h
  · omega
  · rename_i h0
    rw [if_neg h0, Int.toNat_of_nonneg (by omega)]
set_option maxRecDepth 100000 in
set_option maxHeartbeats 1000000 in
theorem storeG {w : World} {g : Nat} {P : Nat → Prop} {hd : Nat → Value} {B : Gb} {ns : List Nd} {P0 : Pg} {rs : List FR} (h : GX w g P hd B) (hc : Cv w P hd ns P0.ty P0.rf rs) {x : Nat} (hx : x < ns.length) (t : Int) (hr : rfA P0 x < 256) (hl : B.code.length ≤ 49000) : Calls Tryz.prog 193 #[.pointer (some ⟨g, 0, none⟩), .int .i64 (x : Nat), .int .i64 t] w (EmR w g P hd { B with code := B.code ++ [clsO t 3 5, rfA P0 x] }) := by
  have q1 := classF t 3 5 w
  have q2 := slotF h (clsO t 3 5) (rfA P0 x) (by unfold clsO; split <;> omega) hr (by omega)
  obtain ⟨cv, hv, xv, ev, col, H⟩ := h
  have c7 : w.cell? ⟨g, 7, none⟩ = some (hd 7) := H.cl (o := 7) (by omega)
  have hlt := H.glt
  have hz := H.blk.frozen
  have hrl := hc.rl
  have hnl := hc.an.nl
  obtain ⟨b, e1, e2, e3⟩ := ILV.at hc.an.hr (i := x) (by omega)
  rw [rfA_get hr (by omega)] at e3
  rw [e1, hrl] at c7
  have hxl : (x : Int) < ns.length := by omega
  clear H hc e1 hrl
  generalize clsO t 3 5 = o at *
  generalize rfA P0 x = r at *
  go_enter Tryz.func193, Tryz.ntmps193
  go_wp2_with fail
  refine q1.mono ?_
  rintro v w1 ⟨rfl, hw1⟩
  subst w1
  go_wp2_with fail
  refine q2.mono ?_
  rintro v w1 ⟨rfl, hE⟩
  go_wp2_with fail
  go_end0
  exact ⟨rfl, hE⟩
end Go.Proofs.Qxb6500277aGreat
