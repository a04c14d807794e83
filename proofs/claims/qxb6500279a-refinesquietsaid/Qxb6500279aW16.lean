import Derived.Test.Qxb6500279aW15
import Derived.Test.Qxb6500279aPast
namespace Go.Proofs.Qxb6500279a
open Go Go.RowKit

/-- What Check asks. -/
structure CheckOK (r : R) : Prop where
  st5 : r.state < 5
  sound : ∀ j (h : j < r.toks.length), SoundT r.toks[j]
  ord : ∀ j (h : j + 1 < r.toks.length), r.toks[j].pos + widthT r.toks[j] ≤ r.toks[j + 1].pos
  eof : ∀ j (h : j < r.toks.length), (r.toks[j].kind = 0 ↔ (j + 1 = r.toks.length ∧ r.fail = 0))
  pos : ∀ j (h : j < r.toks.length), r.toks[j].pos ≤ 5000

theorem LRepA.tok {w : World} {x bb : Nat} {all : List Tok} {r : R} (h : LRepA w x bb all r) (j : Nat) (hj : j < r.toks.length) (o : Nat) (ho : o < 4) : w.cell? ⟨bb, j * 4 + o, none⟩ = some (tokCell r.toks[j] o) := by
  rw [h.buf.cell (by have := h.le; omega), bufF_at _ _ _ ho]
  have e : all[j]? = some r.toks[j] := by
    have e := List.getElem?_take (l := all) (i := r.toks.length) (j := j)
    rw [h.take, if_pos hj] at e
    rw [← e]; simp [hj]
  simp [e]

theorem width_bounds {t : Tok} (h : SoundT t) : 0 ≤ widthT t ∧ widthT t ≤ 8 := by
  have := tokText_size t.kind
  unfold widthT
  split
  · have := h.id (by assumption); omega
  · split <;> omega

set_option maxRecDepth 100000 in
set_option maxHeartbeats 8000000 in
theorem check_any {w : World} {x bb : Nat} {r : R} (h : LRep w x bb r) (hc : CheckOK r) :
    Calls Try.prog 26 #[.pointer (some ⟨x, 0, none⟩)] w fun e w' => e = .returned (.bool true) ∧ Fr (fun _ => False) w w' := by
  obtain ⟨all, hA⟩ := h
  have c0 : w.cell? ⟨x, 0, none⟩ = some (.slice (some ⟨bb, 0, none⟩) all.length all.length) := hA.main.cell (by omega)
  have c1 : w.cell? ⟨x, 1, none⟩ = some (.int .i64 r.toks.length) := hA.main.cell (by omega)
  have c2 : w.cell? ⟨x, 2, none⟩ = some (.int .i64 r.state) := hA.main.cell (by omega)
  have c3 : w.cell? ⟨x, 3, none⟩ = some (.int .i64 r.start) := hA.main.cell (by omega)
  have hlo := hA.lo
  have hhi := hA.hi
  have hle := hA.le
  have h5 := hc.st5
  have t1 : decide ((all.length : Int) < 4) = false := by simp; omega
  have t2 : decide ((r.toks.length : Int) < 0) = false := by simp
  have t3 : decide ((all.length : Int) < (r.toks.length : Int)) = false := by simp; omega
  have t3' : decide (all.length < r.toks.length) = false := by simp; omega
  have t4 : decide ((r.state : Int) < 0) = false := by simp
  have t5 : decide ((5 : Int) ≤ (r.state : Int)) = false := by simp; omega
  have t6 : decide ((r.start : Int) < 0) = false := by simp
  have hxl := hA.main.lt
  have hbl := hA.buf.lt
  go_enter Try.func26, Try.ntmps26
  go_wp2_with fail
  refine wp_region_text (by kernel_rfl) (by kernel_rfl) ?_
  go_wp2_with fail
  refine ⟨by kernel_rfl, ?_⟩
  go_wp2_with fail
  go_loopg [3] r.toks.length (fun g jv wr => ∃ j : Nat, jv = .int .i64 j ∧ j + g = r.toks.length ∧ Fr (fun _ => False) w wr)
  case atStart => exact ⟨0, rfl, by omega, (Fr.refl _ _).drew⟩
  case round =>
    obtain ⟨j, rfl, hg, hfr⟩ := hrel
    have hg' : j + gk = r.toks.length := hg
    have hA1 := hA.frame hfr (by simp) (by simp)
    have d0 : wr.cell? ⟨x, 0, none⟩ = some (.slice (some ⟨bb, 0, none⟩) all.length all.length) := hA1.main.cell (by omega)
    have d1 : wr.cell? ⟨x, 1, none⟩ = some (.int .i64 r.toks.length) := hA1.main.cell (by omega)
    have d6 : wr.cell? ⟨x, 6, none⟩ = some (.int .i64 r.fail) := hA1.main.cell (by omega)
    have hxl1 := hA1.main.lt
    have hbl1 := hA1.buf.lt
    clear hg c0 c1 c2 c3
    by_cases hlt : j < r.toks.length
    · have e0 := hA1.tok j hlt 0 (by omega)
      have e1 := hA1.tok j hlt 1 (by omega)
      have e2 := hA1.tok j hlt 2 (by omega)
      have e3 := hA1.tok j hlt 3 (by omega)
      simp only [tokCell, Nat.add_zero] at e0 e1 e2 e3
      have hsd := hc.sound j hlt
      have heo := hc.eof j hlt
      have hps := hc.pos j hlt
      obtain ⟨hw0, hw8⟩ := width_bounds hsd
      have hor := fun h => hc.ord j h
      have hjl : j < all.length := by omega
      obtain ⟨T, hT⟩ : ∃ T, T = r.toks[j] := ⟨_, rfl⟩
      rw [← hT] at e0 e1 e2 e3 hsd heo hps hw0 hw8
      have hor' : ∀ h : j + 1 < r.toks.length, T.pos + widthT T ≤ r.toks[j + 1].pos := fun h => by rw [hT]; exact hor h
      have Hor : Hid _ := hor'
      have hp0 := hsd.p0
      have Heo : Hid _ := heo
      clear heo hor hor' hT
      go_wp2_with fail
      refine (sound_any T hsd _).mono ?_
      rintro e w3 ⟨rfl, f3⟩
      have b0 : w3.cell? ⟨wr.heap.size, 0, none⟩ = some (.int .i64 T.kind) := f3.newCell (by simp) 0
      have b1 : w3.cell? ⟨wr.heap.size, 1, none⟩ = some (.int .i64 T.pos) := f3.newCell (by simp) 1
      have b2 : w3.cell? ⟨wr.heap.size, 2, none⟩ = some (.int .i64 T.val) := f3.newCell (by simp) 2
      have b3 : w3.cell? ⟨wr.heap.size, 3, none⟩ = some (.string T.text) := f3.newCell (by simp) 3
      have g3 : Fr (fun _ => False) wr w3 := ((Fr.refl (fun _ => False) wr).alloc _).trans f3 (fun _ _ h => h)
      have hA3 := hA1.frame g3 (by simp) (by simp)
      have d0 : w3.cell? ⟨x, 0, none⟩ = some (.slice (some ⟨bb, 0, none⟩) all.length all.length) := hA3.main.cell (by omega)
      have d1 : w3.cell? ⟨x, 1, none⟩ = some (.int .i64 r.toks.length) := hA3.main.cell (by omega)
      have d6 : w3.cell? ⟨x, 6, none⟩ = some (.int .i64 r.fail) := hA3.main.cell (by omega)
      have hxl3 := hA3.main.lt
      have hbl3 := hA3.buf.lt
      have hwz : wr.heap.size < w3.heap.size := by have := f3.size; simp at this; omega
      go_wp2_with fail
      by_cases hn : j + 1 < r.toks.length
      · have e4 := hA3.tok (j + 1) hn 1 (by omega)
        simp only [tokCell] at e4
        have p0 : ∀ y : Past w3, y.now.cell? ⟨wr.heap.size, 0, none⟩ = some (.int .i64 T.kind) := Past.cell b0 hwz
        have p1 : ∀ y : Past w3, y.now.cell? ⟨wr.heap.size, 1, none⟩ = some (.int .i64 T.pos) := Past.cell b1 hwz
        have p2 : ∀ y : Past w3, y.now.cell? ⟨wr.heap.size, 2, none⟩ = some (.int .i64 T.val) := Past.cell b2 hwz
        have p3 : ∀ y : Past w3, y.now.cell? ⟨wr.heap.size, 3, none⟩ = some (.string T.text) := Past.cell b3 hwz
        have p4 : ∀ y : Past w3, y.now.cell? ⟨x, 0, none⟩ = some (.slice (some ⟨bb, 0, none⟩) all.length all.length) := Past.cell d0 hxl3
        have p5 : ∀ y : Past w3, y.now.cell? ⟨x, 1, none⟩ = some (.int .i64 r.toks.length) := Past.cell d1 hxl3
        have p6 : ∀ y : Past w3, y.now.cell? ⟨bb, (j + 1) * 4 + 1, none⟩ = some (.int .i64 r.toks[j + 1].pos) := Past.cell e4 hbl3
        have s1 : decide ((j : Int) + 1 < (r.toks.length : Int)) = true := by simp; omega
        have s2 : (j : Int) + 1 < (all.length : Int) := by omega
        have s3 : decide (r.toks[j + 1].pos < T.pos + widthT T) = false := by have := Hor.out hn; simp; omega
        haveI := Past.some w3
        refine wp_region_past (by kernel_rfl) (by kernel_rfl) ?_
        repeat (go_big_quiet_step (exact Calls.past_of (width_any T _)))
        refine wpQuiet_nil ?_
        rintro _ ⟨y, rfl⟩
        have hk0 : T.kind ≠ 0 := fun e => by have := (Heo.out.1 e).1; omega
        have k0 : (T.kind == 0) = false := by simpa using hk0
        have s5 : ((j : Int) == (r.toks.length : Int) - 1) = false := by simp; omega
        have fy := y.fr
        go_wp2_with fail
        refine wp_region_text (by kernel_rfl) (by kernel_rfl) ?_
        go_wp2_with fail
        refine ⟨by kernel_rfl, ?_⟩
        go_wp2_with fail
        go_roundg (gk - 1)
        case measure => omega
        case rel => exact ⟨j + 1, by simp, by omega, hfr.trans (g3.trans fy (fun _ _ h => h) |>.drew) (fun _ _ h => h)⟩
      · have hje : j + 1 = r.toks.length := by omega
        have s1 : decide ((j : Int) + 1 < (r.toks.length : Int)) = false := by simp; omega
        have s5 : ((j : Int) == (r.toks.length : Int) - 1) = true := by simp; omega
        haveI := Past.some w3
        have p5 : ∀ y : Past w3, y.now.cell? ⟨x, 1, none⟩ = some (.int .i64 r.toks.length) := Past.cell d1 hxl3
        refine wp_region_past (by kernel_rfl) (by kernel_rfl) ?_
        repeat (go_big_quiet_step (fail))
        refine wpQuiet_nil ?_
        rintro _ ⟨y, rfl⟩
        have fy := y.fr
        have b0 : y.now.cell? ⟨wr.heap.size, 0, none⟩ = some (.int .i64 T.kind) := Past.cell b0 hwz y
        have d1 : y.now.cell? ⟨x, 1, none⟩ = some (.int .i64 r.toks.length) := Past.cell d1 hxl3 y
        have d6 : y.now.cell? ⟨x, 6, none⟩ = some (.int .i64 r.fail) := Past.cell d6 hxl3 y
        by_cases hk0 : T.kind = 0
        · have hf0 := (Heo.out.1 hk0).2
          rw [hk0] at b0
          rw [hf0] at d6
          clear hk0 hf0
          go_wp2_with fail
          refine wp_region_text (by kernel_rfl) (by kernel_rfl) ?_
          go_wp2_with fail
          refine ⟨by kernel_rfl, ?_⟩
          go_wp2_with fail
          go_roundg (gk - 1)
          case measure => omega
          case rel => exact ⟨j + 1, by simp, by omega, hfr.trans (g3.trans fy (fun _ _ h => h) |>.drew) (fun _ _ h => h)⟩
        · have hf0 : r.fail ≠ 0 := fun e => hk0 (Heo.out.2 ⟨hje, e⟩)
          have k0 : (T.kind == 0) = false := by simpa using hk0
          have k1 : ((r.fail : Int) == 0) = false := by simp; omega
          clear hk0 hf0
          go_wp2_with fail
          refine wp_region_text (by kernel_rfl) (by kernel_rfl) ?_
          go_wp2_with fail
          refine ⟨by kernel_rfl, ?_⟩
          go_wp2_with fail
          go_roundg (gk - 1)
          case measure => omega
          case rel => exact ⟨j + 1, by simp, by omega, hfr.trans (g3.trans fy (fun _ _ h => h) |>.drew) (fun _ _ h => h)⟩
    · go_wp2_with fail
      go_ret
      exact ⟨rfl, hfr⟩
end Go.Proofs.Qxb6500279a
