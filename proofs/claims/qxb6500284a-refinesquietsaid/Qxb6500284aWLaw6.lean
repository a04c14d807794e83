import Derived.Test.Qxb6500284aWLaw5
namespace Go.Proofs.Qxb6500284a
open Go Go.RowKit

theorem Blk.stamp (w : World) : Blk (w.alloc (.cells #[.int .i64 (-7), .int .i64 (-7), .int .i64 (-7), .int .u64 0, .int .u64 0, .int .u64 0, .int .u64 0] 63)) w.heap.size 7 (inCell stampIn) :=
  Blk.new w _ _ _ fun o ho => by
    rcases (show o = 0 ∨ o = 1 ∨ o = 2 ∨ o = 3 ∨ o = 4 ∨ o = 5 ∨ o = 6 by simp at ho; omega) with rfl | rfl | rfl | rfl | rfl | rfl | rfl <;> rfl

def keepD (D : DD) (keep : Bool) (c : Value) (N : Nat) : DD := if keep then { D with o := upd D.o (N % 4) c, n := (N + 1 : Nat) } else D
theorem dcell_o (D : DD) (k : Nat) (hk : k < 4) : dcell D (3 + k) = D.o k := by
  rcases (show k = 0 ∨ k = 1 ∨ k = 2 ∨ k = 3 by omega) with rfl | rfl | rfl | rfl <;> rfl
theorem dcell_keep (D : DD) (c : Value) (N : Nat) : ∀ o, o < 9 → upd (upd (dcell D) (3 + N % 4) c) 7 (.int .i64 (N + 1 : Nat)) o = dcell (keepD D true c N) o := by
  intro o ho
  have : N % 4 < 4 := by omega
  simp only [keepD, if_true, upd]
  rcases (show o = 0 ∨ o = 1 ∨ o = 2 ∨ o = 3 ∨ o = 4 ∨ o = 5 ∨ o = 6 ∨ o = 7 ∨ o = 8 by omega) with rfl | rfl | rfl | rfl | rfl | rfl | rfl | rfl | rfl <;>
  rcases (show N % 4 = 0 ∨ N % 4 = 1 ∨ N % 4 = 2 ∨ N % 4 = 3 by omega) with h | h | h | h <;> rw [h] <;> simp [dcell, upd]

set_option maxRecDepth 100000 in
set_option maxHeartbeats 2000000 in
theorem scribble_any {w : World} {d cb m cap N : Nat} {D : DD} {f : Nat → Value} {p : List In} (keep : Bool) (hd : Blk w d 9 (dcell D)) (ho : ∀ k, k < 4 → OldAt w (D.o k)) (hN : D.n = N) (hN2 : N < 5000000000000)
    (hcv : SlAt w D.cv p) (hlen : p.length ≤ 65) (hc : Blk w cb m f) (hf : Holds7 f p) (hm : p.length * 7 ≤ m) (hne : cb ≠ d) :
    Calls Try.prog 25 #[.pointer (some ⟨d, 0, none⟩), .slice (some ⟨cb, 0, none⟩) p.length cap, .bool keep] w fun e w' => e = .returned (.bool true) ∧ Fr (fun b => b = cb ∨ b = d) w w' ∧
      Blk w' d 9 (dcell (keepD D keep (.slice (some ⟨cb, 0, none⟩) p.length cap) N)) ∧ ∃ f', Blk w' cb m f' ∧ Holds7 f' (List.replicate p.length stampIn) := by
  have c0 : w.cell? ⟨d, 0, none⟩ = some D.cv := hd.cell (by omega)
  go_enter Try.func25, Try.ntmps25
  go_wp2_with fail
  refine (sameCode_any (va := .slice (some ⟨cb, 0, none⟩) p.length cap) (p := p) ⟨_, _, rfl, .inr ⟨cb, rfl, hf.at hc hm⟩⟩ hcv (by omega)).mono ?_
  rintro e w1 ⟨rfl, f1⟩
  go_wp2_with fail
  have hd1 := hd.frame f1 (by simp)
  have ho1 : ∀ k, k < 4 → OldAt w1 (D.o k) := fun k hk => by
    obtain ⟨n, h1, h2⟩ := ho k hk
    exact ⟨n, h1, h2.frame f1 (by simp)⟩
  refine (untouched_any hd1 ho1).mono ?_
  rintro e w2 ⟨rfl, f2⟩
  go_wp2_with fail
  refine (stamp_any _).mono ?_
  rintro e w3 ⟨rfl, f3⟩
  unfold inV stampIn
  go_wp2_with fail
  have f123 : Fr (fun _ => False) w w3 := (f1.trans f2 (fun _ _ h => h)).trans f3 (fun _ _ h => h)
  have fin : Fr (fun _ => False) w (w3.alloc (.cells #[.int .i64 (-7), .int .i64 (-7), .int .i64 (-7), .int .u64 0, .int .u64 0, .int .u64 0, .int .u64 0] 63)) := f123.alloc _
  have hsz : w.heap.size ≤ w3.heap.size := f123.size
  have hcl := hc.lt
  have hdl := hd.lt
  go_loopg [10] p.length (fun g kv wr => ∃ k : Nat, kv = .int .i64 k ∧ k + g = p.length ∧ Fr (fun b => b = cb) w wr ∧ Blk wr w3.heap.size 7 (inCell stampIn) ∧ ∃ f', Blk wr cb m f' ∧ ∀ o, o < k * 7 → f' o = inCell stampIn (o % 7))
  case atStart => exact ⟨0, rfl, by omega, fin.mono (fun _ _ h => h.elim), Blk.stamp _, f, hc.frame fin (by simp), fun o ho => absurd ho (by omega)⟩
  case round =>
    obtain ⟨k, rfl, hkg, hfr, hst, f', hcb, hf'⟩ := hrel
    have hkg' : k + gk = p.length := hkg
    clear hkg
    by_cases hlt : k < p.length
    · have s0 := hst.cell (show 0 < 7 by omega)
      have s1 := hst.cell (show 1 < 7 by omega)
      have s2 := hst.cell (show 2 < 7 by omega)
      have s3 := hst.cell (show 3 < 7 by omega)
      have s4 := hst.cell (show 4 < 7 by omega)
      have s5 := hst.cell (show 5 < 7 by omega)
      have s6 := hst.cell (show 6 < 7 by omega)
      simp only [inCell, stampIn] at s0 s1 s2 s3 s4 s5 s6
      have b0 := hcb.cell (show k * 7 < m by omega)
      have b1 := hcb.cell (show k * 7 + 1 < m by omega)
      have b2 := hcb.cell (show k * 7 + 2 < m by omega)
      have b3 := hcb.cell (show k * 7 + 3 < m by omega)
      have b4 := hcb.cell (show k * 7 + 4 < m by omega)
      have b5 := hcb.cell (show k * 7 + 5 < m by omega)
      have b6 := hcb.cell (show k * 7 + 6 < m by omega)
      have z := hcb.frozen
      go_wp2_with fail
      go_roundg (gk - 1)
      case measure => omega
      case rel =>
        refine ⟨k + 1, by simp, by omega, ?_, ?_, _, ((((((hcb.set _ _).set _ _).set _ _).set _ _).set _ _).set _ _).set _ _, ?_⟩
        · exact ((((((hfr.setC _ _ _ (fun _ => rfl)).setC _ _ _ (fun _ => rfl)).setC _ _ _ (fun _ => rfl)).setC _ _ _ (fun _ => rfl)).setC _ _ _ (fun _ => rfl)).setC _ _ _ (fun _ => rfl)).setC _ _ _ (fun _ => rfl)
        · have hne3 : w3.heap.size ≠ cb := by omega
          exact ((((((hst.setOther _ _ hne3).setOther _ _ hne3).setOther _ _ hne3).setOther _ _ hne3).setOther _ _ hne3).setOther _ _ hne3).setOther _ _ hne3
        · intro o ho'
          by_cases h7 : o < k * 7
          · simp only [upd, show o ≠ k * 7 by omega, show o ≠ k * 7 + 1 by omega, show o ≠ k * 7 + 2 by omega, show o ≠ k * 7 + 3 by omega, show o ≠ k * 7 + 4 by omega, show o ≠ k * 7 + 5 by omega, show o ≠ k * 7 + 6 by omega, if_false]
            exact hf' o h7
          · rcases (show o = k * 7 ∨ o = k * 7 + 1 ∨ o = k * 7 + 2 ∨ o = k * 7 + 3 ∨ o = k * 7 + 4 ∨ o = k * 7 + 5 ∨ o = k * 7 + 6 by omega) with rfl | rfl | rfl | rfl | rfl | rfl | rfl <;>
            simp [upd, inCell, stampIn, Nat.add_mod]
    · have hdw : Blk wr d 9 (dcell D) := hd.frame hfr (fun h => hne h.symm)
      have hH : Holds7 f' (List.replicate p.length stampIn) := by
        intro i hi j hj
        rw [List.length_replicate] at hi
        rw [hf' (i * 7 + j) (by omega), List.getElem_replicate, show (i * 7 + j) % 7 = j by omega]
      have d7 : wr.cell? ⟨d, 7, none⟩ = some (.int .i64 N) := by rw [hdw.cell (by omega)]; simp [dcell, hN]
      have hq : N % 4 < 4 := by omega
      have dq := hdw.cell (show 3 + N % 4 < 9 by omega)
      have hz := hdw.frozen
      have ht : ((N : Int).tmod 4) = ((N % 4 : Nat) : Int) := by rw [Int.tmod_eq_emod_of_nonneg (by omega)]; omega
      cases keep
      · go_wp2_with fail
        go_ret
        exact ⟨rfl, hfr.mono (fun _ _ h => .inl h), hdw, f', hcb, hH⟩
      · go_wp2_with fail
        refine wp_region_text (by kernel_rfl) (by kernel_rfl) ?_
        go_wp2_with fail
        refine ⟨by kernel_rfl, ?_⟩
        go_wp2_with fail
        go_ret
        refine ⟨rfl, ?_, ?_, f', ?_, hH⟩
        · exact (((hfr.mono (S' := fun b => b = cb ∨ b = d) (fun _ _ h => .inl h)).setC _ _ _ (fun _ => .inr rfl)).setC _ _ _ (fun _ => .inr rfl)).drew
        · exact (((hdw.set _ _).set _ _).congr (dcell_keep D _ N)).drew
        · exact ((hcb.setOther _ _ hne).setOther _ _ hne).drew
end Go.Proofs.Qxb6500284a
