import Derived.Test.Qxb6500282aSets
namespace Go.Proofs.Qxb6500282a
open Go Go.RowKit

set_option maxHeartbeats 400000 in
theorem lengthen_any (reg s : ByteArray) (hr : reg.size ≤ 257) (w : World) : Calls Try.prog 14 #[.string reg, .string s, .int .i64 256] w fun e w' => (∃ t : ByteArray, e = .returned (.string t) ∧ t.size ≤ 257) ∧ w' = w := by
  by_cases h1 : reg.size = 257
  · go_enter Try.func14, Try.ntmps14
    go_wp2
    go_ret
    exact ⟨⟨_, rfl, hr⟩, rfl⟩
  · have hr2 : reg.size < 257 := by omega
    clear hr h1
    by_cases h2 : (257 : Int) - reg.size < s.size
    · go_enter Try.func14, Try.ntmps14
      go_wp2
      go_ret
      refine ⟨⟨_, rfl, ?_⟩, rfl⟩
      simp [ByteArray.size_append, ByteArray.size_extract]
      omega
    · go_enter Try.func14, Try.ntmps14
      go_wp2
      go_ret
      refine ⟨⟨_, rfl, ?_⟩, rfl⟩
      simp [ByteArray.size_append]
      omega

theorem Blk.set4 {w : World} {b : Nat} {h : Nat → Int} (hb : Blk w b 4 (u64s h)) (a0 a1 a2 a3 : Int) :
    ∃ h', Blk ((((w.setCell ⟨b, 0, none⟩ (.int .u64 a0)).setCell ⟨b, 1, none⟩ (.int .u64 a1)).setCell ⟨b, 2, none⟩ (.int .u64 a2)).setCell ⟨b, 3, none⟩ (.int .u64 a3)) b 4 (u64s h') := by
  have := (((hb.set 0 (.int .u64 a0)).set 1 (.int .u64 a1)).set 2 (.int .u64 a2)).set 3 (.int .u64 a3)
  rw [u64s_upd, u64s_upd, u64s_upd, u64s_upd] at this
  exact ⟨_, this⟩

set_option maxRecDepth 100000 in
set_option maxHeartbeats 2000000 in
theorem instOf_any (kind A B C : Int) (S T : ByteArray) (w : World) : Calls Try.prog 13 #[.agg #[.int .i64 kind, .int .i64 A, .int .i64 B, .int .i64 C, .string S, .string T]] w fun e w' => (∃ g : Nat → Int, e = .returned (inV ⟨A, B, C, g 0, g 1, g 2, g 3⟩)) ∧ Fr (fun _ => False) w w' := by
  go_enter Try.func13, Try.ntmps13
  go_wp2_with fail
  go_loopg [4] 128 (fun g kv wr => ∃ k : Nat, kv = .int .i64 k ∧ k + g = 128 ∧ Fr (fun _ => False) w wr
    ∧ Blk wr w.heap.size 6 (fun o => (#[.int .i64 kind, .int .i64 A, .int .i64 B, .int .i64 C, .string S, .string T] : Array Value).getD o undef)
    ∧ (∃ h, Blk wr (w.heap.size + 2) 4 (u64s h)) ∧ ∃ i : In, Blk wr (w.heap.size + 1) 7 (inCell i))
  case atStart =>
    refine ⟨0, rfl, by omega, (((Fr.refl _ _).alloc _).alloc _).alloc _, ?_, ⟨fun _ => 0, ?_⟩, ⟨0, 0, 0, 0, 0, 0, 0⟩, ?_⟩
    · refine (Blk.alloc (Blk.alloc (Blk.new w _ _ _ fun o ho => ?_) _) _).congr (fun _ _ => rfl)
      simp at ho
      simp [ho]
    · have := Blk.u64four ((w.alloc (.cells #[.int .i64 kind, .int .i64 A, .int .i64 B, .int .i64 C, .string S, .string T] 42)).alloc (.cells #[.int .i64 0, .int .i64 0, .int .i64 0, .int .u64 0, .int .u64 0, .int .u64 0, .int .u64 0] 47)) (fun _ => 0) 45
      simpa using this
    · have := (Blk.new (w.alloc (.cells #[.int .i64 kind, .int .i64 A, .int .i64 B, .int .i64 C, .string S, .string T] 42)) #[.int .i64 0, .int .i64 0, .int .i64 0, .int .u64 0, .int .u64 0, .int .u64 0, .int .u64 0] 47 (inCell ⟨0, 0, 0, 0, 0, 0, 0⟩) (fun o ho => by
        simp at ho
        rcases (show o = 0 ∨ o = 1 ∨ o = 2 ∨ o = 3 ∨ o = 4 ∨ o = 5 ∨ o = 6 by omega) with rfl | rfl | rfl | rfl | rfl | rfl | rfl <;> rfl)).alloc (.cells #[.int .u64 0, .int .u64 0, .int .u64 0, .int .u64 0] 45)
      simpa using this
  case round =>
    obtain ⟨k, rfl, hkg, hfr, hb0, ⟨h, hb⟩, i0, hb2⟩ := hrel
    have e1 := hb0.cell (show 1 < 6 by omega)
    have e2 := hb0.cell (show 2 < 6 by omega)
    have e3 := hb0.cell (show 3 < 6 by omega)
    have e4 := hb0.cell (show 4 < 6 by omega)
    have e5 := hb0.cell (show 5 < 6 by omega)
    have c0 := hb.cell (show 0 < 4 by omega)
    have c1 := hb.cell (show 1 < 4 by omega)
    have c2 := hb.cell (show 2 < 4 by omega)
    have c3 := hb.cell (show 3 < 4 by omega)
    have z1 := hb.frozen
    have z2 := hb2.frozen
    simp [u64s] at c0 c1 c2 c3 e1 e2 e3 e4 e5
    have hkg' : k + gk = 128 := hkg
    clear hkg
    by_cases hlt : k < S.size ∧ k < 128
    · obtain ⟨l1, l2⟩ := hlt
      go_wp2_with fail
      refine wp_region_text (by kernel_rfl) (by kernel_rfl) ?_
      go_wp2_with fail
      refine (span_any h _ _ (UInt8.toNat_lt _) (UInt8.toNat_lt _) _).mono ?_
      rintro e w2 ⟨⟨g, rfl⟩, f2⟩
      have hb' := hb.drew.frame f2 (by simp)
      have y1 := hb'.frozen
      have y0 := hb'.cell (show 0 < 4 by omega)
      have y2 := hb'.cell (show 1 < 4 by omega)
      have y3 := hb'.cell (show 2 < 4 by omega)
      have y4 := hb'.cell (show 3 < 4 by omega)
      unfold setV
      go_wp2_with fail
      refine ⟨by kernel_rfl, ?_⟩
      go_wp2_with fail
      go_roundg (gk - 1)
      case measure => omega
      case rel =>
        refine ⟨k + 1, by simp, by omega, ?_, ?_, Blk.set4 hb' _ _ _ _, i0, ?_⟩
        · repeat' refine Fr.setNew ?_ (by omega)
          exact hfr.drew.trans f2 (fun _ _ h => h)
        · exact ((((hb0.drew.frame f2 (by simp)).setOther _ _ (by simp only; omega)).setOther _ _ (by simp only; omega)).setOther _ _ (by simp only; omega)).setOther _ _ (by simp only; omega)
        · exact ((((hb2.drew.frame f2 (by simp)).setOther _ _ (by simp only; omega)).setOther _ _ (by simp only; omega)).setOther _ _ (by simp only; omega)).setOther _ _ (by simp only; omega)
    · have q0 := hb2.cell (show 0 < 7 by omega)
      have q1 := hb2.cell (show 1 < 7 by omega)
      have q2 := hb2.cell (show 2 < 7 by omega)
      have q3 := hb2.cell (show 3 < 7 by omega)
      have q4 := hb2.cell (show 4 < 7 by omega)
      have q5 := hb2.cell (show 5 < 7 by omega)
      have q6 := hb2.cell (show 6 < 7 by omega)
      simp only [inCell] at q0 q1 q2 q3 q4 q5 q6
      by_cases l1 : k < S.size
      · have l2 : ¬ k < 128 := fun h => hlt ⟨l1, h⟩
        clear hlt
        cases hT : T.toList.isEmpty
        · go_wp2_with fail
          refine (not_any h _).mono ?_
          rintro e w2 ⟨⟨g, rfl⟩, f2⟩
          have hb' := hb.frame f2 (by simp)
          have hb2' := hb2.frame f2 (by simp)
          have hb0' := hb0.frame f2 (by simp)
          have y0 := hb'.cell (show 0 < 4 by omega)
          have y1 := hb'.cell (show 1 < 4 by omega)
          have y2 := hb'.cell (show 2 < 4 by omega)
          have y3 := hb'.cell (show 3 < 4 by omega)
          have p0 := hb2'.cell (show 0 < 7 by omega)
          have p1 := hb2'.cell (show 1 < 7 by omega)
          have p2 := hb2'.cell (show 2 < 7 by omega)
          have p3 := hb2'.cell (show 3 < 7 by omega)
          have p4 := hb2'.cell (show 4 < 7 by omega)
          have p5 := hb2'.cell (show 5 < 7 by omega)
          have p6 := hb2'.cell (show 6 < 7 by omega)
          have r0 := hb0'.cell (show 0 < 6 by omega)
          have r1 := hb0'.cell (show 1 < 6 by omega)
          have r2 := hb0'.cell (show 2 < 6 by omega)
          have r3 := hb0'.cell (show 3 < 6 by omega)
          have r4 := hb0'.cell (show 4 < 6 by omega)
          have r5 := hb0'.cell (show 5 < 6 by omega)
          have y9 := hb'.frozen
          have p9 := hb2'.frozen
          simp [u64s, inCell] at y0 y1 y2 y3 p0 p1 p2 p3 p4 p5 p6 r1 r2 r3 r4 r5
          unfold setV
          go_wp2_with fail
          refine bodyPost_ret (v := inV ⟨A, B, C, g 0, g 1, g 2, g 3⟩) (by simp [results, Try.results13, go_sem, inV, p0, p1, p2, p3, p4, p5, p6]) rfl ⟨⟨g, rfl⟩, ?_⟩
          repeat' refine Fr.setNew ?_ (by omega)
          exact hfr.trans f2 (fun _ _ h => h)
        · go_wp2_with fail
          refine bodyPost_ret (v := inV ⟨A, B, C, h 0, h 1, h 2, h 3⟩) (by simp [results, Try.results13, go_sem, inV, q0, q1, q2, q3, q4, q5, q6]) rfl ⟨⟨h, rfl⟩, ?_⟩
          repeat' refine Fr.setNew ?_ (by omega)
          exact hfr
      · clear hlt
        cases hT : T.toList.isEmpty
        · go_wp2_with fail
          refine (not_any h _).mono ?_
          rintro e w2 ⟨⟨g, rfl⟩, f2⟩
          have hb' := hb.frame f2 (by simp)
          have hb2' := hb2.frame f2 (by simp)
          have hb0' := hb0.frame f2 (by simp)
          have y0 := hb'.cell (show 0 < 4 by omega)
          have y1 := hb'.cell (show 1 < 4 by omega)
          have y2 := hb'.cell (show 2 < 4 by omega)
          have y3 := hb'.cell (show 3 < 4 by omega)
          have p0 := hb2'.cell (show 0 < 7 by omega)
          have p1 := hb2'.cell (show 1 < 7 by omega)
          have p2 := hb2'.cell (show 2 < 7 by omega)
          have p3 := hb2'.cell (show 3 < 7 by omega)
          have p4 := hb2'.cell (show 4 < 7 by omega)
          have p5 := hb2'.cell (show 5 < 7 by omega)
          have p6 := hb2'.cell (show 6 < 7 by omega)
          have r0 := hb0'.cell (show 0 < 6 by omega)
          have r1 := hb0'.cell (show 1 < 6 by omega)
          have r2 := hb0'.cell (show 2 < 6 by omega)
          have r3 := hb0'.cell (show 3 < 6 by omega)
          have r4 := hb0'.cell (show 4 < 6 by omega)
          have r5 := hb0'.cell (show 5 < 6 by omega)
          have y9 := hb'.frozen
          have p9 := hb2'.frozen
          simp [u64s, inCell] at y0 y1 y2 y3 p0 p1 p2 p3 p4 p5 p6 r1 r2 r3 r4 r5
          unfold setV
          go_wp2_with fail
          refine bodyPost_ret (v := inV ⟨A, B, C, g 0, g 1, g 2, g 3⟩) (by simp [results, Try.results13, go_sem, inV, p0, p1, p2, p3, p4, p5, p6]) rfl ⟨⟨g, rfl⟩, ?_⟩
          repeat' refine Fr.setNew ?_ (by omega)
          exact hfr.trans f2 (fun _ _ h => h)
        · go_wp2_with fail
          refine bodyPost_ret (v := inV ⟨A, B, C, h 0, h 1, h 2, h 3⟩) (by simp [results, Try.results13, go_sem, inV, q0, q1, q2, q3, q4, q5, q6]) rfl ⟨⟨h, rfl⟩, ?_⟩
          repeat' refine Fr.setNew ?_ (by omega)
          exact hfr
end Go.Proofs.Qxb6500282a
