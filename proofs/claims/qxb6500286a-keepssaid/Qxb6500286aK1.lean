/- The law: nodes compared. -/
import Derived.Test.Qxb6500286aM16
namespace Go.Proofs.Qxb6500286a
open Go Go.RowKit

theorem eqSet (a b c d : Int) (w : World) : (Op.equalIn 10000 68 (.agg #[.int .u64 a, .int .u64 b, .int .u64 c, .int .u64 d]) (.agg #[.int .u64 a, .int .u64 b, .int .u64 c, .int .u64 d])).run Try.prog w = .ok true w :=
  run_equalArr 9998 68 66 4 .u64 Try.underlying68 (by kernel_rfl) Try.underlying66 _ (fun i hi => by
    obtain rfl | rfl | rfl | rfl : i = 0 ∨ i = 1 ∨ i = 2 ∨ i = 3 := by omega
    · exact ⟨a, rfl⟩
    · exact ⟨b, rfl⟩
    · exact ⟨c, rfl⟩
    · exact ⟨d, rfl⟩) w
theorem eqg47 : Try.prog.eqGuardType Try.prog.depth 68 = false := by kernel_rfl
set_option maxRecDepth 100000 in
set_option maxHeartbeats 4000000 in
theorem sameNode_any (n : Nd) (w : World) : Calls Try.prog 94 #[ndV n, ndV n] w fun e w' => e = .returned (.bool true) ∧ Fr (fun _ => False) w w' := by
  have e1 := eqSet (wd n.st 0 : Nat) (wd n.st 1 : Nat) (wd n.st 2 : Nat) (wd n.st 3 : Nat)
  have e2 := eqg47
  unfold ndV
  go_enter Try.func94, Try.ntmps94
  go_wp2_with fail
  go_ret
  exact ⟨rfl, ((Fr.refl _ _).alloc _).alloc _⟩
def stampNd : Nd := ⟨-7, -7, -7, -7, -7, -7, false, noP⟩
set_option maxHeartbeats 400000 in
theorem stamp_any (w : World) : Calls Try.prog 83 #[] w fun e w' => e = .returned (ndV stampNd) ∧ Fr (fun _ => False) w w' := by
  go_enter Try.func83, Try.ntmps83
  go_wp2_with fail
  exact bodyPost_ret (v := ndV stampNd) (by simp [results, Try.results83, go_sem, ndV, stampNd, wd_zero]) rfl ⟨rfl, (Fr.refl _ _).alloc _⟩
/-- A list value that holds the nodes ns and has no spare room. -/
def LVn (w : World) (v : Value) (ns : List Nd) : Prop := (v = .slice none 0 0 ∧ ns = []) ∨ ∃ b f, v = .slice (some ⟨b, 0, none⟩) ns.length ns.length ∧ Blk w b (ns.length * 11) f ∧ Holds11 f ns ∧ 0 < ns.length
def isBlk (v : Value) (b : Nat) : Prop := ∃ n c, v = .slice (some ⟨b, 0, none⟩) n c
theorem noBlk (b : Nat) : ¬ isBlk (.slice none 0 0) b := by rintro ⟨n, c, e⟩; cases e
theorem LVn.frame {S : Nat → Prop} {w w' : World} {v : Value} {ns : List Nd} (h : LVn w v ns) (k : Fr S w w') (hb : ∀ b, isBlk v b → ¬ S b) : LVn w' v ns := by
  rcases h with h | ⟨b, f, rfl, ht, hf, hp⟩
  · exact .inl h
  · exact .inr ⟨b, f, rfl, ht.frame k (hb b ⟨_, _, rfl⟩), hf, hp⟩
theorem LVn.lt {w : World} {v : Value} {ns : List Nd} (h : LVn w v ns) {b : Nat} (hb : isBlk v b) : b < w.heap.size := by
  obtain ⟨n, c, e⟩ := hb
  rcases h with ⟨rfl, _⟩ | ⟨b', f, rfl, ht, hf, hp⟩
  · cases e
  · cases e; exact ht.lt
theorem LVn.sl {w : World} {v : Value} {ns : List Nd} (h : LVn w v ns) : ∃ a, v = .slice a ns.length ns.length := by
  rcases h with ⟨rfl, rfl⟩ | ⟨b, f, rfl, _⟩
  · exact ⟨none, rfl⟩
  · exact ⟨_, rfl⟩
set_option maxRecDepth 100000 in
set_option maxHeartbeats 4000000 in
theorem sameNodes_any {w : World} {v1 v2 : Value} {ns : List Nd} (h1 : LVn w v1 ns) (h2 : LVn w v2 ns) (hl : ns.length ≤ 31) :
    Calls Try.prog 82 #[v1, v2] w fun e w' => e = .returned (.bool true) ∧ Fr (fun _ => False) w w' := by
  rcases h1 with ⟨rfl, rfl⟩ | ⟨b1, g1, rfl, ht1, hf1, hp⟩
  · rcases h2 with ⟨rfl, _⟩ | ⟨b2, g2, rfl, ht2, hf2, hp⟩
    · go_enter Try.func82, Try.ntmps82
      go_wp2_with fail
      refine wp_loop_rounds 1 ?_
      rw [rounds_succ]
      go_wp2_with fail
      go_ret
      exact ⟨rfl, Fr.refl _ _⟩
    · simp at hp
  · rcases h2 with ⟨_, rfl⟩ | ⟨b2, g2, rfl, ht2, hf2, hp2⟩
    · simp at hp
    go_enter Try.func82, Try.ntmps82
    go_wp2_with fail
    go_loopg [5] ns.length (fun g iv wr => ∃ i : Nat, iv = .int .i64 i ∧ i + g = ns.length ∧ Fr (fun _ => False) w wr)
    case atStart => exact ⟨0, rfl, by omega, Fr.refl _ _⟩
    case round =>
      obtain ⟨i, rfl, hg, hfr⟩ := hrel
      have hg' : i + gk = ns.length := hg
      clear hg
      by_cases hlt : i < ns.length
      · have k1 := hf1.at (ht1.frame hfr (by simp)) (Nat.le_refl _)
        have k2 := hf2.at (ht2.frame hfr (by simp)) (Nat.le_refl _)
        have a0 := k1 i hlt 0 (by omega)
        have c0 := k2 i hlt 0 (by omega)
        have a1 := k1 i hlt 1 (by omega)
        have c1 := k2 i hlt 1 (by omega)
        have a2 := k1 i hlt 2 (by omega)
        have c2 := k2 i hlt 2 (by omega)
        have a3 := k1 i hlt 3 (by omega)
        have c3 := k2 i hlt 3 (by omega)
        have a4 := k1 i hlt 4 (by omega)
        have c4 := k2 i hlt 4 (by omega)
        have a5 := k1 i hlt 5 (by omega)
        have c5 := k2 i hlt 5 (by omega)
        have a6 := k1 i hlt 6 (by omega)
        have c6 := k2 i hlt 6 (by omega)
        have a7 := k1 i hlt 7 (by omega)
        have c7 := k2 i hlt 7 (by omega)
        have a8 := k1 i hlt 8 (by omega)
        have c8 := k2 i hlt 8 (by omega)
        have a9 := k1 i hlt 9 (by omega)
        have c9 := k2 i hlt 9 (by omega)
        have a10 := k1 i hlt 10 (by omega)
        have c10 := k2 i hlt 10 (by omega)
        simp only [ndCell, Nat.add_zero] at a0 c0 a1 c1 a2 c2 a3 c3 a4 c4 a5 c5 a6 c6 a7 c7 a8 c8 a9 c9 a10 c10
        go_wp2_with fail
        refine wp_region_text (by kernel_rfl) (by kernel_rfl) ?_
        go_wp2_with fail
        refine (sameNode_any ns[i] _).mono ?_
        rintro e w3 ⟨rfl, f3⟩
        go_wp2_with fail
        refine ⟨by kernel_rfl, ?_⟩
        go_wp2_with fail
        go_roundg (gk - 1)
        case measure => omega
        case rel => exact ⟨i + 1, by simp, by omega, hfr.drew.trans f3 (fun _ _ h => h)⟩
      · go_wp2_with fail
        go_ret
        exact ⟨rfl, hfr⟩
def treeV (v : Value) (y g e q : Int) : Value := .agg #[v, .int .i64 y, .int .i64 g, .int .i64 e, .int .i64 q]
set_option maxRecDepth 100000 in
set_option maxHeartbeats 4000000 in
theorem sameTree_any {w : World} {v1 v2 : Value} {ns : List Nd} (h1 : LVn w v1 ns) (h2 : LVn w v2 ns) (hl : ns.length ≤ 31) (y g e q : Int) :
    Calls Try.prog 68 #[treeV v1 y g e q, treeV v2 y g e q] w fun e w' => e = .returned (.bool true) ∧ Fr (fun _ => False) w w' := by
  unfold treeV
  obtain ⟨a1, rfl⟩ := h1.sl
  obtain ⟨a2, rfl⟩ := h2.sl
  have f2 := ((Fr.refl (fun _ => False) w).alloc (.cells #[.slice a1 ns.length ns.length, .int .i64 y, .int .i64 g, .int .i64 e, .int .i64 q] 41)).alloc (.cells #[.slice a2 ns.length ns.length, .int .i64 y, .int .i64 g, .int .i64 e, .int .i64 q] 41)
  have k1 := h1.frame f2 (fun _ _ h => h)
  have k2 := h2.frame f2 (fun _ _ h => h)
  go_enter Try.func68, Try.ntmps68
  go_wp2_with fail
  refine (sameNodes_any k1 k2 hl).mono ?_
  rintro e w3 ⟨rfl, f3⟩
  go_wp2_with fail
  go_ret
  exact ⟨rfl, f2.trans f3 (fun _ _ h => h)⟩
end Go.Proofs.Qxb6500286a
