import Derived.Test.Qxb6500284aWLaw1
namespace Go.Proofs.Qxb6500284a
open Go Go.RowKit

/-- The slice v holds the instructions p. -/
def SlAt (w : World) (v : Value) (p : List In) : Prop := ∃ a cap, v = .slice a p.length cap ∧ (p = [] ∨ ∃ b, a = some ⟨b, 0, none⟩ ∧ PAt w b p)
theorem SlAt.frame {S : Nat → Prop} {w w' : World} {v : Value} {p : List In} (h : SlAt w v p) (k : Fr S w w') (hb : ∀ b n c, v = .slice (some ⟨b, 0, none⟩) n c → ¬ S b) : SlAt w' v p := by
  obtain ⟨a, cap, rfl, h⟩ := h
  refine ⟨a, cap, rfl, ?_⟩
  rcases h with h | ⟨b, rfl, h⟩
  · exact .inl h
  · exact .inr ⟨b, rfl, h.frame k (hb b _ _ rfl)⟩

set_option maxHeartbeats 1000000 in
theorem sameCode_any {w : World} {va vb : Value} {p : List In} (ha : SlAt w va p) (hb : SlAt w vb p) (hlen : p.length < 1000000) :
    Calls Try.prog 32 #[va, vb] w fun e w' => e = .returned (.bool true) ∧ Fr (fun _ => False) w w' := by
  obtain ⟨a, ca, rfl, ha⟩ := ha
  obtain ⟨b, cb, rfl, hb⟩ := hb
  have t1 : ((p.length : Int) != (p.length : Int)) = false := by simp
  go_enter Try.func32, Try.ntmps32
  go_wp2_with fail
  go_loopg [5] p.length (fun g kv wr => ∃ k : Nat, kv = .int .i64 k ∧ k + g = p.length ∧ Fr (fun _ => False) w wr)
  case atStart => exact ⟨0, rfl, by omega, Fr.refl _ _⟩
  case round =>
    obtain ⟨k, rfl, hkg, hfr⟩ := hrel
    by_cases hlt : k < p.length
    · have hkg' : k + gk = p.length := hkg
      clear hkg
      rcases ha with h0 | ⟨ab, rfl, hpa⟩
      · rw [h0] at hlt; exact absurd hlt (by simp)
      rcases hb with h0 | ⟨bb, rfl, hpb⟩
      · rw [h0] at hlt; exact absurd hlt (by simp)
      have hp1 := hpa.frame hfr (by simp)
      have hp2 := hpb.frame hfr (by simp)
      have i0 := hp1 k hlt 0 (by omega)
      have i1 := hp1 k hlt 1 (by omega)
      have i2 := hp1 k hlt 2 (by omega)
      have i3 := hp1 k hlt 3 (by omega)
      have i4 := hp1 k hlt 4 (by omega)
      have i5 := hp1 k hlt 5 (by omega)
      have i6 := hp1 k hlt 6 (by omega)
      have j0 := hp2 k hlt 0 (by omega)
      have j1 := hp2 k hlt 1 (by omega)
      have j2 := hp2 k hlt 2 (by omega)
      have j3 := hp2 k hlt 3 (by omega)
      have j4 := hp2 k hlt 4 (by omega)
      have j5 := hp2 k hlt 5 (by omega)
      have j6 := hp2 k hlt 6 (by omega)
      simp only [inCell, Nat.add_zero] at i0 i1 i2 i3 i4 i5 i6 j0 j1 j2 j3 j4 j5 j6
      go_wp2_with fail
      refine wp_region_text (by kernel_rfl) (by kernel_rfl) ?_
      go_wp2_with fail
      refine (sameInst_any p[k] _).mono ?_
      rintro e w2 ⟨rfl, f2⟩
      go_wp2_with fail
      refine ⟨by kernel_rfl, ?_⟩
      go_wp2_with fail
      go_roundg (gk - 1)
      case measure => omega
      case rel => exact ⟨k + 1, by simp, by omega, hfr.drew.trans f2 (fun _ _ h => h)⟩
    · clear ha hb hkg
      go_wp2_with fail
      go_ret
      exact ⟨rfl, hfr⟩

structure DD where
  cv : Value
  sub : ByteArray
  lid : Int
  o : Nat → Value
  n : Int
  bb : Nat
def dcell (D : DD) (k : Nat) : Value :=
  match k with
  | 0 => D.cv
  | 1 => .string D.sub
  | 2 => .int .i64 D.lid
  | 3 => D.o 0
  | 4 => D.o 1
  | 5 => D.o 2
  | 6 => D.o 3
  | 7 => .int .i64 D.n
  | _ => .slice (some ⟨D.bb, 0, none⟩) 65 65
def OldAt (w : World) (v : Value) : Prop := ∃ n, n ≤ 65 ∧ SlAt w v (List.replicate n stampIn)

set_option maxHeartbeats 1000000 in
theorem untouched_any {w : World} {d : Nat} {D : DD} (hd : Blk w d 9 (dcell D)) (ho : ∀ k, k < 4 → OldAt w (D.o k)) :
    Calls Try.prog 33 #[.pointer (some ⟨d, 0, none⟩)] w fun e w' => e = .returned (.bool true) ∧ Fr (fun _ => False) w w' := by
  go_enter Try.func33, Try.ntmps33
  go_wp2_with fail
  refine (stamp_any _).mono ?_
  rintro e w1 ⟨rfl, f1⟩
  unfold inV stampIn
  go_wp2_with fail
  go_loopg [4] 4 (fun g kv wr => ∃ k : Nat, kv = .int .i64 k ∧ k + g = 4 ∧ Fr (fun _ => False) w wr ∧ Fr (fun _ => False) (w1.alloc (.cells #[.int .i64 (-7), .int .i64 (-7), .int .i64 (-7), .int .u64 0, .int .u64 0, .int .u64 0, .int .u64 0] 63)) wr)
  case atStart => exact ⟨0, rfl, by omega, f1.alloc _, Fr.refl _ _⟩
  case round =>
    obtain ⟨k, rfl, hkg, hfr, hfs⟩ := hrel
    have hkg' : k + gk = 4 := hkg
    clear hkg
    by_cases hlt : k < 4
    · go_wp2_with fail
      obtain ⟨n, hn65, av, cap, hov, hsl⟩ := ho k hlt
      rw [List.length_replicate] at hov
      have hdv : ∀ wr', Fr (fun _ => False) w wr' → wr'.cell? ⟨d, 3 + k, none⟩ = some (.slice av n cap) := fun wr' hf => by
        rw [(hd.frame hf (by simp)).cell (by omega), ← hov]
        rcases (show k = 0 ∨ k = 1 ∨ k = 2 ∨ k = 3 by omega) with rfl | rfl | rfl | rfl <;> rfl
      have Hdv : Hid _ := hdv
      clear hdv hov
      go_loopg [5] n (fun g jv wr' => ∃ j : Nat, jv = .int .i64 j ∧ j + g = n ∧ Fr (fun _ => False) w wr' ∧ Fr (fun _ => False) (w1.alloc (.cells #[.int .i64 (-7), .int .i64 (-7), .int .i64 (-7), .int .u64 0, .int .u64 0, .int .u64 0, .int .u64 0] 63)) wr')
      case atStart => exact ⟨0, rfl, by omega, hfr, hfs⟩
      case round =>
        obtain ⟨j, rfl, hjg, hfr2, hfs2⟩ := hrel
        have c1 := Hdv.out _ hfr2
        by_cases hj : j < n
        · have hjg' : j + gk = n := hjg
          clear hjg
          rcases hsl with h0 | ⟨ob, rfl, hpo⟩
          · have : (List.replicate n stampIn).length = 0 := by rw [h0]; rfl
            rw [List.length_replicate] at this; exact absurd hj (by omega)
          have hlt2 : j < (List.replicate n stampIn).length := by rw [List.length_replicate]; exact hj
          have hp1 := hpo.frame hfr2 (by simp)
          have i0 := hp1 j hlt2 0 (by omega)
          have i1 := hp1 j hlt2 1 (by omega)
          have i2 := hp1 j hlt2 2 (by omega)
          have i3 := hp1 j hlt2 3 (by omega)
          have i4 := hp1 j hlt2 4 (by omega)
          have i5 := hp1 j hlt2 5 (by omega)
          have i6 := hp1 j hlt2 6 (by omega)
          simp only [inCell, Nat.add_zero, List.getElem_replicate, stampIn] at i0 i1 i2 i3 i4 i5 i6
          have s0 := hfs2.newCell (by simp)
          go_wp2_with fail
          refine wp_region_text (by kernel_rfl) (by kernel_rfl) ?_
          go_wp2_with fail
          refine (sameInst_any stampIn _).mono ?_
          rintro e w2 ⟨rfl, f2⟩
          go_wp2_with fail
          refine ⟨by kernel_rfl, ?_⟩
          go_wp2_with fail
          go_roundg (gk - 1)
          case measure => omega
          case rel => exact ⟨j + 1, by simp, by omega, hfr2.drew.trans f2 (fun _ _ h => h), hfs2.drew.trans f2 (fun _ _ h => h)⟩
        · clear hjg
          go_wp2_with fail
          go_roundg (3 - k)
          case measure => omega
          case rel => exact ⟨k + 1, by simp, by omega, hfr2, hfs2⟩
    · go_wp2_with fail
      go_ret
      exact ⟨rfl, hfr⟩
end Go.Proofs.Qxb6500284a
