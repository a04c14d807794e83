import Derived.Test.Qxb6500283aGreatPmWFollow
namespace Go.Proofs.Qxb6500283aGreat
open Go Go.RowKit

theorem PRep.capsCell {w : World} {x : Nat} {s : PS} (h : PRep w x s) {W : Nat} (hW : W < 2) : w.cell? ⟨x, W * 130 + 129, none⟩ = some (.slice (some ⟨x + 1 + W, 0, none⟩) 512 512) := by
  rcases (show W = 0 ∨ W = 1 by omega) with rfl | rfl <;> exact h.main.cell (by omega)
theorem PRep.caps {w : World} {x : Nat} {s : PS} (h : PRep w x s) {W : Nat} (hW : W < 2) : Blk w (x + 1 + W) 512 (ints (s.g W)) := by
  rcases (show W = 0 ∨ W = 1 by omega) with rfl | rfl
  · exact h.c0
  · exact h.c1
theorem PRep.setG {w : World} {x : Nat} {s : PS} (h : PRep w x s) (W : Nat) (hW : W < 2) (o : Nat) (f : Nat → Int) (p n : Nat) :
    PRep (w.setCells (x + 1 + W) o (rowOf (ints f) p n)) x { s with g := updG s.g W (cpy (s.g W) o f p n) } := by
  rcases (show W = 0 ∨ W = 1 by omega) with rfl | rfl
  · exact ⟨h.main.setCellsOther _ (by omega) _ _, by have := h.c0.setCells (rowOf (ints f) p n) o; rwa [lay_ints] at this, h.c1.setCellsOther _ (by omega) _ _, h.st.setCellsOther _ (by omega) _ _, h.rg.setCellsOther _ (by omega) _ _, h.bs.setCellsOther _ (by omega) _ _, h.no.setCellsOther _ (by omega) _ _⟩
  · exact ⟨h.main.setCellsOther _ (by omega) _ _, h.c0.setCellsOther _ (by omega) _ _, by have := h.c1.setCells (rowOf (ints f) p n) o; rwa [lay_ints] at this, h.st.setCellsOther _ (by omega) _ _, h.rg.setCellsOther _ (by omega) _ _, h.bs.setCellsOther _ (by omega) _ _, h.no.setCellsOther _ (by omega) _ _⟩
set_option maxHeartbeats 1000000 in
theorem follow_save {w : World} {x : Nat} {s : PS} (h : PRep w x s) (p : List In) (pb cap : Nat) (hp : PAt w pb p) (hpb : ¬ pOwn x pb) (size : Int) (W pc n sp : Nat) (at_ : Int) (hW : W < 2) (hpc : pc < p.length) (hlen : p.length ≤ 64)
    (hn : s.f (W * 130 + 128) = n) (hlt : n < 64) (hsp : s.f 261 = sp) (hsp' : sp < 64) (hop : p[pc].op = 3) (k : Nat) (hx : p[pc].x = k) (hk : k < 8) :
    Calls Tryz.prog 93 #[.pointer (some ⟨x, 0, none⟩), .slice (some ⟨pb, 0, none⟩) p.length cap, .int .i64 size, .int .i64 W, .int .i64 pc, .int .i64 at_] w fun e w' =>
      e = .returned (.tuple #[]) ∧ PRep w' x (followS p size W pc at_ s) ∧ Fr (pOwn x) w w' := by
  have e1 : followS p size W pc at_ s = pushS { (pushS { s with f := putF s.f W pc } 0 k (s.r k)) with r := upd s.r k at_ } (pc + 1) (-1) 0 := by simp [followS, hpc, hop, hx, pushS]
  have hs1 : ({ s with f := putF s.f W pc } : PS).f 261 = (sp : Int) := by rw [← hsp]; exact putF_261 s.f W pc hW (by omega) (by omega)
  rw [e1]
  clear e1
  go_enter Tryz.func93, Tryz.ntmps93
  go_wp2_with fail
  refine (put_any h W pc n hW (by omega) hn hlt).mono ?_
  rintro e w1 ⟨rfl, h1, f1⟩
  have hp1 := hp.frame f1 hpb
  have d0 := hp1 pc hpc 0 (by omega)
  have d1 := hp1 pc hpc 1 (by omega)
  have d2 := hp1 pc hpc 2 (by omega)
  have d3 := hp1 pc hpc 3 (by omega)
  have d4 := hp1 pc hpc 4 (by omega)
  have d5 := hp1 pc hpc 5 (by omega)
  have d6 := hp1 pc hpc 6 (by omega)
  simp only [inCell, Nat.add_zero, hop, hx] at d0 d1 d2 d3 d4 d5 d6
  go_wp2_with fail
  refine wp_region_text (by kernel_rfl) (by kernel_rfl) ?_
  have hbx := h1.no.lt
  have c1 : w1.cell? ⟨x, 262, none⟩ = some (.slice (some ⟨x + 4, 0, none⟩) 8 8) := h1.main.cell (by omega)
  have c2 : w1.cell? ⟨x + 4, k, none⟩ = some (.int .i64 (s.r k)) := h1.rg.cell (by omega)
  have b1 : x < w1.heap.size := h1.main.lt
  have b4 : x + 4 < w1.heap.size := h1.rg.lt
  go_wp2_with fail
  refine (pushM_any ((h1.alloc _).drew) sp _ _ _ hs1 (by omega)).mono ?_
  rintro e w2 ⟨rfl, h2, f2⟩
  have hx2 : w2.cell? ⟨w1.heap.size, 1, none⟩ = some (.int .i64 k) := by
    rw [f2.cell (p := ⟨w1.heap.size, 1, none⟩) (by simp) (by unfold pOwn; simp; omega), World.cell?_drew, World.cell?_alloc_new]; rfl
  have c3 : w2.cell? ⟨x, 262, none⟩ = some (.slice (some ⟨x + 4, 0, none⟩) 8 8) := h2.main.cell (by omega)
  have c4 : w2.cell? ⟨x + 4, k, none⟩ = some (.int .i64 (s.r k)) := h2.rg.cell (by omega)
  have g4 : w2.frozen? ⟨x + 4, k, none⟩ = false := h2.rg.frozen k
  go_wp2_with fail
  refine ⟨by kernel_rfl, ?_⟩
  go_wp2_with fail
  refine wp_region_text (by kernel_rfl) (by kernel_rfl) ?_
  go_wp2_with fail
  refine ⟨by kernel_rfl, ?_⟩
  go_wp2_with fail
  refine (pushM_any ((h2.setR k at_).drew) (sp + 1) _ _ _ (by simp only [pushS, upd_same]; rw [hs1]; rfl) (by omega)).mono ?_
  rintro e w3 ⟨rfl, h3, f3⟩
  go_wp2_with fail
  go_end0
  exact ⟨rfl, h3, ((((f1.alloc _).drew).trans f2 (fun _ _ h => h)).psetM 4 _ _ (by omega)).drew.trans f3 (fun _ _ h => h)⟩
set_option maxHeartbeats 1000000 in
theorem follow_begin_yes {w : World} {x : Nat} {s : PS} (h : PRep w x s) (p : List In) (pb cap : Nat) (hp : PAt w pb p) (hpb : ¬ pOwn x pb) (size : Int) (W pc n sp : Nat) (at_ : Int) (hW : W < 2) (hpc : pc < p.length) (hlen : p.length ≤ 64)
    (hn : s.f (W * 130 + 128) = n) (hlt : n < 64) (hsp : s.f 261 = sp) (hsp' : sp < 64) (hop : p[pc].op = 4) (hat : at_ = 0) :
    Calls Tryz.prog 93 #[.pointer (some ⟨x, 0, none⟩), .slice (some ⟨pb, 0, none⟩) p.length cap, .int .i64 size, .int .i64 W, .int .i64 pc, .int .i64 at_] w fun e w' =>
      e = .returned (.tuple #[]) ∧ PRep w' x (followS p size W pc at_ s) ∧ Fr (pOwn x) w w' := by
  have e1 : followS p size W pc at_ s = pushS { s with f := putF s.f W pc } (pc + 1) (-1) 0 := by simp [followS, hpc, hop, hat]
  have hs1 : ({ s with f := putF s.f W pc } : PS).f 261 = (sp : Int) := by rw [← hsp]; exact putF_261 s.f W pc hW (by omega) (by omega)
  rw [e1]
  clear e1
  subst hat
  go_enter Tryz.func93, Tryz.ntmps93
  go_wp2_with fail
  refine (put_any h W pc n hW (by omega) hn hlt).mono ?_
  rintro e w1 ⟨rfl, h1, f1⟩
  have hp1 := hp.frame f1 hpb
  have d0 := hp1 pc hpc 0 (by omega)
  have d1 := hp1 pc hpc 1 (by omega)
  have d2 := hp1 pc hpc 2 (by omega)
  have d3 := hp1 pc hpc 3 (by omega)
  have d4 := hp1 pc hpc 4 (by omega)
  have d5 := hp1 pc hpc 5 (by omega)
  have d6 := hp1 pc hpc 6 (by omega)
  simp only [inCell, Nat.add_zero, hop] at d0 d1 d2 d3 d4 d5 d6
  go_wp2_with fail
  refine (pushM_any (h1.alloc _) sp _ _ _ hs1 (by omega)).mono ?_
  rintro e w2 ⟨rfl, h2, f2⟩
  go_wp2_with fail
  go_end0
  exact ⟨rfl, h2, (f1.alloc _).trans f2 (fun _ _ h => h)⟩
set_option maxHeartbeats 1000000 in
theorem follow_begin_no {w : World} {x : Nat} {s : PS} (h : PRep w x s) (p : List In) (pb cap : Nat) (hp : PAt w pb p) (hpb : ¬ pOwn x pb) (size : Int) (W pc n sp : Nat) (at_ : Int) (hW : W < 2) (hpc : pc < p.length) (hlen : p.length ≤ 64)
    (hn : s.f (W * 130 + 128) = n) (hlt : n < 64) (hsp : s.f 261 = sp) (_hsp' : sp < 64) (hop : p[pc].op = 4) (hat : ¬ at_ = 0) :
    Calls Tryz.prog 93 #[.pointer (some ⟨x, 0, none⟩), .slice (some ⟨pb, 0, none⟩) p.length cap, .int .i64 size, .int .i64 W, .int .i64 pc, .int .i64 at_] w fun e w' =>
      e = .returned (.tuple #[]) ∧ PRep w' x (followS p size W pc at_ s) ∧ Fr (pOwn x) w w' := by
  have e1 : followS p size W pc at_ s = { s with f := putF s.f W pc } := by simp [followS, hpc, hop, hat]
  have hs1 : ({ s with f := putF s.f W pc } : PS).f 261 = (sp : Int) := by rw [← hsp]; exact putF_261 s.f W pc hW (by omega) (by omega)
  rw [e1]
  clear e1
  have hb : (at_ == 0) = false := by simpa using hat
  clear hat
  go_enter Tryz.func93, Tryz.ntmps93
  go_wp2_with fail
  refine (put_any h W pc n hW (by omega) hn hlt).mono ?_
  rintro e w1 ⟨rfl, h1, f1⟩
  have hp1 := hp.frame f1 hpb
  have d0 := hp1 pc hpc 0 (by omega)
  have d1 := hp1 pc hpc 1 (by omega)
  have d2 := hp1 pc hpc 2 (by omega)
  have d3 := hp1 pc hpc 3 (by omega)
  have d4 := hp1 pc hpc 4 (by omega)
  have d5 := hp1 pc hpc 5 (by omega)
  have d6 := hp1 pc hpc 6 (by omega)
  simp only [inCell, Nat.add_zero, hop] at d0 d1 d2 d3 d4 d5 d6
  go_wp2_with fail
  go_end0
  exact ⟨rfl, h1.alloc _, f1.alloc _⟩
set_option maxHeartbeats 1000000 in
theorem follow_end_yes {w : World} {x : Nat} {s : PS} (h : PRep w x s) (p : List In) (pb cap : Nat) (hp : PAt w pb p) (hpb : ¬ pOwn x pb) (size : Int) (W pc n sp : Nat) (at_ : Int) (hW : W < 2) (hpc : pc < p.length) (hlen : p.length ≤ 64)
    (hn : s.f (W * 130 + 128) = n) (hlt : n < 64) (hsp : s.f 261 = sp) (hsp' : sp < 64) (hop : p[pc].op = 5) (hat : at_ = size) :
    Calls Tryz.prog 93 #[.pointer (some ⟨x, 0, none⟩), .slice (some ⟨pb, 0, none⟩) p.length cap, .int .i64 size, .int .i64 W, .int .i64 pc, .int .i64 at_] w fun e w' =>
      e = .returned (.tuple #[]) ∧ PRep w' x (followS p size W pc at_ s) ∧ Fr (pOwn x) w w' := by
  have e1 : followS p size W pc at_ s = pushS { s with f := putF s.f W pc } (pc + 1) (-1) 0 := by simp [followS, hpc, hop, hat]
  have hs1 : ({ s with f := putF s.f W pc } : PS).f 261 = (sp : Int) := by rw [← hsp]; exact putF_261 s.f W pc hW (by omega) (by omega)
  rw [e1]
  clear e1
  subst hat
  go_enter Tryz.func93, Tryz.ntmps93
  go_wp2_with fail
  refine (put_any h W pc n hW (by omega) hn hlt).mono ?_
  rintro e w1 ⟨rfl, h1, f1⟩
  have hp1 := hp.frame f1 hpb
  have d0 := hp1 pc hpc 0 (by omega)
  have d1 := hp1 pc hpc 1 (by omega)
  have d2 := hp1 pc hpc 2 (by omega)
  have d3 := hp1 pc hpc 3 (by omega)
  have d4 := hp1 pc hpc 4 (by omega)
  have d5 := hp1 pc hpc 5 (by omega)
  have d6 := hp1 pc hpc 6 (by omega)
  simp only [inCell, Nat.add_zero, hop] at d0 d1 d2 d3 d4 d5 d6
  go_wp2_with fail
  refine (pushM_any (h1.alloc _) sp _ _ _ hs1 (by omega)).mono ?_
  rintro e w2 ⟨rfl, h2, f2⟩
  go_wp2_with fail
  go_end0
  exact ⟨rfl, h2, (f1.alloc _).trans f2 (fun _ _ h => h)⟩
set_option maxHeartbeats 1000000 in
theorem follow_end_no {w : World} {x : Nat} {s : PS} (h : PRep w x s) (p : List In) (pb cap : Nat) (hp : PAt w pb p) (hpb : ¬ pOwn x pb) (size : Int) (W pc n sp : Nat) (at_ : Int) (hW : W < 2) (hpc : pc < p.length) (hlen : p.length ≤ 64)
    (hn : s.f (W * 130 + 128) = n) (hlt : n < 64) (hsp : s.f 261 = sp) (_hsp' : sp < 64) (hop : p[pc].op = 5) (hat : ¬ at_ = size) :
    Calls Tryz.prog 93 #[.pointer (some ⟨x, 0, none⟩), .slice (some ⟨pb, 0, none⟩) p.length cap, .int .i64 size, .int .i64 W, .int .i64 pc, .int .i64 at_] w fun e w' =>
      e = .returned (.tuple #[]) ∧ PRep w' x (followS p size W pc at_ s) ∧ Fr (pOwn x) w w' := by
  have e1 : followS p size W pc at_ s = { s with f := putF s.f W pc } := by simp [followS, hpc, hop, hat]
  have hs1 : ({ s with f := putF s.f W pc } : PS).f 261 = (sp : Int) := by rw [← hsp]; exact putF_261 s.f W pc hW (by omega) (by omega)
  rw [e1]
  clear e1
  have hb : (at_ == size) = false := by simpa using hat
  clear hat
  go_enter Tryz.func93, Tryz.ntmps93
  go_wp2_with fail
  refine (put_any h W pc n hW (by omega) hn hlt).mono ?_
  rintro e w1 ⟨rfl, h1, f1⟩
  have hp1 := hp.frame f1 hpb
  have d0 := hp1 pc hpc 0 (by omega)
  have d1 := hp1 pc hpc 1 (by omega)
  have d2 := hp1 pc hpc 2 (by omega)
  have d3 := hp1 pc hpc 3 (by omega)
  have d4 := hp1 pc hpc 4 (by omega)
  have d5 := hp1 pc hpc 5 (by omega)
  have d6 := hp1 pc hpc 6 (by omega)
  simp only [inCell, Nat.add_zero, hop] at d0 d1 d2 d3 d4 d5 d6
  go_wp2_with fail
  go_end0
  exact ⟨rfl, h1.alloc _, f1.alloc _⟩
set_option maxHeartbeats 1000000 in
theorem follow_wait {w : World} {x : Nat} {s : PS} (h : PRep w x s) (p : List In) (pb cap : Nat) (hp : PAt w pb p) (hpb : ¬ pOwn x pb) (size : Int) (W pc n sp : Nat) (at_ : Int) (hW : W < 2) (hpc : pc < p.length) (hlen : p.length ≤ 64)
    (hn : s.f (W * 130 + 128) = n) (hlt : n < 64) (hsp : s.f 261 = sp) (_hsp' : sp < 64) (hop : p[pc].op ≠ 1 ∧ p[pc].op ≠ 2 ∧ p[pc].op ≠ 3 ∧ p[pc].op ≠ 4 ∧ p[pc].op ≠ 5) :
    Calls Tryz.prog 93 #[.pointer (some ⟨x, 0, none⟩), .slice (some ⟨pb, 0, none⟩) p.length cap, .int .i64 size, .int .i64 W, .int .i64 pc, .int .i64 at_] w fun e w' =>
      e = .returned (.tuple #[]) ∧ PRep w' x (followS p size W pc at_ s) ∧ Fr (pOwn x) w w' := by
  have e1 : followS p size W pc at_ s = { ({ s with f := putF s.f W pc } : PS) with g := updG s.g W (cpy (s.g W) (n * 8) s.r 0 8) } := by simp [followS, hpc, hop, hn]
  have hs1 : ({ s with f := putF s.f W pc } : PS).f 261 = (sp : Int) := by rw [← hsp]; exact putF_261 s.f W pc hW (by omega) (by omega)
  rw [e1]
  clear e1
  have o1 : (p[pc].op == 1) = false := by simpa using hop.1
  have o2 : (p[pc].op == 2) = false := by simpa using hop.2.1
  have o3 : (p[pc].op == 3) = false := by simpa using hop.2.2.1
  have o4 : (p[pc].op == 4) = false := by simpa using hop.2.2.2.1
  have o5 : (p[pc].op == 5) = false := by simpa using hop.2.2.2.2
  clear hop
  go_enter Tryz.func93, Tryz.ntmps93
  go_wp2_with fail
  refine (put_any h W pc n hW (by omega) hn hlt).mono ?_
  rintro e w1 ⟨rfl, h1, f1⟩
  have hp1 := hp.frame f1 hpb
  have d0 := hp1 pc hpc 0 (by omega)
  have d1 := hp1 pc hpc 1 (by omega)
  have d2 := hp1 pc hpc 2 (by omega)
  have d3 := hp1 pc hpc 3 (by omega)
  have d4 := hp1 pc hpc 4 (by omega)
  have d5 := hp1 pc hpc 5 (by omega)
  have d6 := hp1 pc hpc 6 (by omega)
  simp only [inCell, Nat.add_zero] at d0 d1 d2 d3 d4 d5 d6
  go_wp2_with fail
  refine wp_region_text (by kernel_rfl) (by kernel_rfl) ?_
  have b1 : x < w1.heap.size := h1.main.lt
  have c1 : w1.cell? ⟨x, W * 130 + 129, none⟩ = some (.slice (some ⟨x + 1 + W, 0, none⟩) 512 512) := h1.capsCell hW
  have c2 : w1.cell? ⟨x, 262, none⟩ = some (.slice (some ⟨x + 4, 0, none⟩) 8 8) := h1.main.cell (by omega)
  go_wp2_with (refine wpList_copy (by rfl) _ _ 105 105 (by rfl) 3 1 (x + 1 + W) (n * 8) ((n + 1) * 8 - n * 8) (512 - n * 8) (x + 4) 0 8 8 512 8 8 (ints (s.g W)) (ints s.r) (by rfl) (by rfl) Tryz.underlying105 (by kernel_rfl) (by rw [show (n + 1) * 8 - n * 8 = 8 by omega]; rfl) (((h1.alloc _).drew).caps hW) ((h1.alloc _).drew).rg (by omega) (by omega) (fun _ _ => rfl) ?_)
  refine ⟨by kernel_rfl, ?_⟩
  go_wp2_with fail
  go_end0
  refine ⟨rfl, ((h1.alloc _).drew).setG W hW _ _ _ _, ?_⟩
  exact Fr.setCells _ (fun _ => by unfold pOwn; omega) _ _ ((f1.alloc _).drew)
end Go.Proofs.Qxb6500283aGreat
