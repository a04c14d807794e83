/- The real parser: answer, Parse, New. -/
import Derived.Test.Qxb6500277aGreatPW17
namespace Go.Proofs.Qxb6500277aGreat
open Go Go.RowKit

section
variable {w w' : World} {A : Pa} {T : List Tok} {i j : Nat} {ns ms : List Nd} {fl : Bool} {er q : Int} {S : Nat → Prop}
/-- A list value that holds the nodes and has no spare room. -/
def NLV (w : World) (v : Value) (ns : List Nd) : Prop := (v = .slice none 0 0 ∧ ns = []) ∨ ∃ b f, v = .slice (some ⟨b, 0, none⟩) ns.length ns.length ∧ Blk w b (ns.length * 8) f ∧ NdP f ns ∧ 0 < ns.length
theorem NLV.frame {v : Value} (h : NLV w v ns) (k : Fr S w w') (hb : ∀ b, isBlk v b → ¬ S b) : NLV w' v ns := by
  rcases h with h | ⟨b, f, rfl, ht, hp⟩
  · exact .inl h
  · exact .inr ⟨b, f, rfl, ht.frame k (hb b ⟨_, _, rfl⟩), hp⟩
theorem NLV.lt {v : Value} (h : NLV w v ns) {b : Nat} (hb : isBlk v b) : b < w.heap.size := by
  obtain ⟨n, c, e⟩ := hb
  rcases h with ⟨rfl, _⟩ | ⟨b', f, rfl, ht, hp⟩
  · cases e
  · cases e; exact ht.lt
def zNode : Value := .agg #[.int .i64 0, .int .i64 0, .int .i64 0, .int .i64 0, .int .i64 0, .int .i64 0, .int .i64 0, .string ⟨#[]⟩]
theorem NdP.cells {f : Nat → Value} (h : NdP f ns) {k : Nat} (hk : k < ns.length) : f (k * 8) = .int .i64 ns[k].kind ∧ f (k * 8 + 1) = .int .i64 ns[k].a ∧ f (k * 8 + 2) = .int .i64 ns[k].b ∧ f (k * 8 + 3) = .int .i64 ns[k].c ∧ f (k * 8 + 4) = .int .i64 ns[k].nx ∧ f (k * 8 + 5) = .int .i64 ns[k].val ∧ f (k * 8 + 6) = .int .i64 ns[k].pos ∧ f (k * 8 + 7) = .string ns[k].name :=
  ⟨h k hk 0 (by omega), h k hk 1 (by omega), h k hk 2 (by omega), h k hk 3 (by omega), h k hk 4 (by omega), h k hk 5 (by omega), h k hk 6 (by omega), h k hk 7 (by omega)⟩
theorem Blk.node {b n : Nat} {f : Nat → Value} (hb : Blk w b n f) (h : NdP f ns) {k : Nat} (hk : k < ns.length) (hn : k * 8 + 8 ≤ n) : w.cell? ⟨b, k * 8, none⟩ = some (.int .i64 ns[k].kind) ∧ w.cell? ⟨b, k * 8 + 1, none⟩ = some (.int .i64 ns[k].a) ∧ w.cell? ⟨b, k * 8 + 2, none⟩ = some (.int .i64 ns[k].b) ∧ w.cell? ⟨b, k * 8 + 3, none⟩ = some (.int .i64 ns[k].c) ∧ w.cell? ⟨b, k * 8 + 4, none⟩ = some (.int .i64 ns[k].nx) ∧ w.cell? ⟨b, k * 8 + 5, none⟩ = some (.int .i64 ns[k].val) ∧ w.cell? ⟨b, k * 8 + 6, none⟩ = some (.int .i64 ns[k].pos) ∧ w.cell? ⟨b, k * 8 + 7, none⟩ = some (.string ns[k].name) := by
  obtain ⟨h0, h1, h2, h3, h4, h5, h6, h7⟩ := h.cells hk
  refine ⟨?_, ?_, ?_, ?_, ?_, ?_, ?_, ?_⟩
  all_goals rw [hb.cell (by omega)]; simp only [*]
theorem Blk.any8 {b n : Nat} {f : Nat → Value} (hb : Blk w b n f) {k : Nat} (hn : k * 8 + 8 ≤ n) : w.cell? ⟨b, k * 8, none⟩ = some (f (k * 8)) ∧ w.cell? ⟨b, k * 8 + 1, none⟩ = some (f (k * 8 + 1)) ∧ w.cell? ⟨b, k * 8 + 2, none⟩ = some (f (k * 8 + 2)) ∧ w.cell? ⟨b, k * 8 + 3, none⟩ = some (f (k * 8 + 3)) ∧ w.cell? ⟨b, k * 8 + 4, none⟩ = some (f (k * 8 + 4)) ∧ w.cell? ⟨b, k * 8 + 5, none⟩ = some (f (k * 8 + 5)) ∧ w.cell? ⟨b, k * 8 + 6, none⟩ = some (f (k * 8 + 6)) ∧ w.cell? ⟨b, k * 8 + 7, none⟩ = some (f (k * 8 + 7)) :=
  ⟨hb.cell (by omega), hb.cell (by omega), hb.cell (by omega), hb.cell (by omega), hb.cell (by omega), hb.cell (by omega), hb.cell (by omega), hb.cell (by omega)⟩
theorem NdP.take {f : Nat → Value} {k : Nat} (h : NdP f (ns.take k)) (hk : k < ns.length) : NdP (upd8 f k ns[k]) (ns.take (k + 1)) := by
  have e : ns.take (k + 1) = ns.take k ++ [ns[k]] := by rw [List.take_succ_eq_append_getElem hk]
  have := h.push ns[k]
  rw [e]
  rw [show (ns.take k).length = k by simp; omega] at this
  exact this
set_option maxRecDepth 100000 in
set_option maxHeartbeats 8000000 in
theorem answerF (P : PM w A T i ns fl er q) : Calls Tryz.prog 85 #[.pointer (some ⟨A.p, 0, none⟩)] w fun e w' => ∃ v, e = .returned v ∧ NLV w' v ns ∧ Fr (fun _ => False) w w' ∧ (∀ b, isBlk v b → w.heap.size ≤ b) ∧ (v = .slice none 0 0 ∨ ∃ b n, v = .slice (some ⟨b, 0, none⟩) n n) := by
  obtain ⟨r1, r2, r3, r4, r5⟩ := P.r15
  obtain ⟨b1, b2, b3⟩ := P.blt
  have hle := P.le
  by_cases h0 : ns.length = 0
  · have hb : ((ns.length : Int) == 0) = true := by simp [h0]
    have Hn : Hid (ns = []) := List.length_eq_zero_iff.1 h0
    clear h0
    go_enter Tryz.func85, Tryz.ntmps85
    go_wp2_with fail
    go_ret
    exact ⟨_, rfl, .inl ⟨rfl, Hn.out⟩, Fr.refl _ _, fun b hb => by (obtain ⟨_, _, e⟩ := hb; cases e), .inl rfl⟩
  · have hb : ((ns.length : Int) == 0) = false := by simpa using h0
    have hp0 : 0 < ns.length := by omega
    clear h0
    go_enter Tryz.func85, Tryz.ntmps85
    go_wp2_with (refine wpList_makeB (by rfl) 64 _ _ (by rfl) 145 8 72 zNode ns.length (by rfl) (by rfl) Tryz.underlying64 (by kernel_rfl) (by kernel_rfl) (by kernel_rfl) (by omega) (by omega) ?_; intro w2 f2 s2 hb2)
    obtain ⟨bx, hbx⟩ : ∃ bx, w.heap.size = bx := ⟨_, rfl⟩
    rw [hbx] at hb2 ⊢
    have Hb : Hid _ := hbx
    have hbx2 : w.heap.size ≤ bx := by omega
    have hbn : A.p < bx ∧ A.ab < bx := by omega
    clear hbx s2 r1 r2 r3 r4 r5 b1 b2 b3
    go_loopg [4] ns.length (fun gk kv wr => ∃ (k : Nat) (f : Nat → Value), kv = .int .i64 k ∧ k + gk = ns.length ∧ Fr (fun _ => False) w wr ∧ Blk wr bx (ns.length * 8) f ∧ NdP f (ns.take k))
    case atStart => exact ⟨0, _, rfl, by omega, f2, hb2, fun j hj => by simp at hj⟩
    case round =>
      clear f2 hb2
      obtain ⟨k, f, rfl, hkg, FJ, hb3, hp3⟩ := hrel
      have Pj := P.same FJ
      obtain ⟨r1, r2, r3, r4, r5⟩ := Pj.r15
      obtain ⟨b1, b2, b3⟩ := Pj.blt
      have hkg' : Hid _ := hkg
      by_cases hk : k < ns.length
      · have hkd : decide ((k : Int) < (ns.length : Nat)) = true := decide_eq_true (by omega)
        have hkd2 : decide (k < ns.length) = true := decide_eq_true hk
        clear hkg
        have Hp3 : Hid _ := hp3.take hk
        obtain ⟨fa, hba, hpa⟩ := Pj.arr
        obtain ⟨m0, m1, m2, m3, m4, m5, m6, m7⟩ := hba.node hpa hk (by omega)
        obtain ⟨o0, o1, o2, o3, o4, o5, o6, o7⟩ := hb3.any8 (k := k) (by omega)
        have hz := hb3.frozen
        have bl := hb3.lt
        have hk2 : k < 200 := by omega
        have Hset : Hid _ := set8_blk (m := k) hb3 ns[k]
        have Hfr : Hid _ := FJ.trans (set8_fr (w := wr) (S := fun c => c = bx) (b := bx) (m := k) ns[k] (fun _ => rfl)) (fun c hc h => by omega)
        generalize ns[k] = nd at *
        clear hp3 FJ P Pj
        go_wp2_with fail
        go_roundg (gk - 1)
        case measure => have := hkg'.out; omega
        case rel => exact ⟨k + 1, _, by simp, by have := hkg'.out; omega, Hfr.out, Hset.out, Hp3.out⟩
      · have hkd : decide ((k : Int) < (ns.length : Nat)) = false := decide_eq_false (by omega)
        have hkd2 : decide (k < ns.length) = false := decide_eq_false hk
        have Hk : Hid (k = ns.length) := by show k = ns.length; omega
        clear hkg
        go_wp2_with fail
        go_ret
        refine ⟨_, rfl, .inr ⟨bx, f, rfl, hb3, ?_, hp0⟩, FJ, fun b hb => by (obtain ⟨_, _, e⟩ := hb; cases e; omega), .inr ⟨_, _, rfl⟩⟩
        rw [Hk.out, List.take_length] at hp3
        exact hp3
end
end Go.Proofs.Qxb6500277aGreat
