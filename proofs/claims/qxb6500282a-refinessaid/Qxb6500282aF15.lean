import Derived.Test.Qxb6500282aF14
import Derived.Test.Qxb6500282aFP1
namespace Go.Proofs.Qxb6500282a
open Go Go.RowKit

def dOk (p : List In) (str : ByteArray) (from_ : Int) : Bool := decide (dErr p str from_ = 0) && (runS p str from_.toNat).isSome
def MB (w : World) (m : Nat) : Prop := ∃ f, Blk w m 3 f ∧ ∃ c : Nat, f 0 = .int .i64 c ∧ c ≤ 1000000
theorem MB.frame {S : Nat → Prop} {w w' : World} {m : Nat} (h : MB w m) (k : Fr S w w') (hm : ¬ S m) : MB w' m := by
  obtain ⟨f, h1, h2⟩ := h
  exact ⟨f, h1.frame k hm, h2⟩
theorem runProg_any {w : World} (p : List In) (pb cap : Nat) (hp : PAt w pb p) (hlen : p.length < 1000000) (str : ByteArray) (from_ : Int) :
    Calls Try.prog 44 #[.slice (some ⟨pb, 0, none⟩) p.length cap, .string str, .int .i64 from_] w fun e w' => (∃ c, e = .returned (foundV (dErr p str from_) 0 (dOk p str from_) c)) ∧ Fr (fun _ => False) w w' := by
  unfold dOk
  by_cases h1 : 256 < str.size
  · have e : dErr p str from_ = 12 := by unfold dErr; rw [if_pos h1]
    rw [e]
    refine (run_long p pb cap str from_ h1).mono ?_
    rintro e w' ⟨rfl, f⟩
    exact ⟨⟨_, rfl⟩, f⟩
  · cases h2 : progOK p with
    | false =>
      have e : dErr p str from_ = 9 := by unfold dErr; rw [if_neg h1, h2, if_pos rfl]
      rw [e]
      refine (run_bad p pb cap hp hlen str from_ (by omega) h2).mono ?_
      rintro e w' ⟨rfl, f⟩
      exact ⟨⟨_, rfl⟩, f⟩
    | true =>
      by_cases h3 : from_ < 0 ∨ (str.size : Int) < from_
      · have e : dErr p str from_ = 10 := by unfold dErr; rw [if_neg h1, h2, if_neg (by simp), if_pos h3]
        rw [e]
        refine (run_range p pb cap hp hlen str from_ (by omega) h2 h3).mono ?_
        rintro e w' ⟨rfl, f⟩
        exact ⟨⟨_, rfl⟩, f⟩
      · have e : dErr p str from_ = 0 := by unfold dErr; rw [if_neg h1, h2, if_neg (by simp), if_neg h3]
        obtain ⟨h4, h5, n, rfl, h6⟩ := dErr_ok e
        rw [e]
        refine (run_main p pb cap h5 hp str h4 n h6).mono ?_
        rintro e w' ⟨rfl, f⟩
        exact ⟨⟨optC (runS p str n), by simp⟩, f⟩
set_option maxRecDepth 100000 in
set_option maxHeartbeats 4000000 in
theorem mAny_any {w : World} {m : Nat} (h : ∃ f, Blk w m 3 f ∧ f 0 = .int .i64 0) (p : List In) (pb cap : Nat) (hp : PAt w pb p) (hlen : p.length < 1000000) (str : ByteArray) (from_ : Int) (hpm : p ≠ [] → pb ≠ m) :
    Calls Try.prog 34 #[.pointer (some ⟨m, 0, none⟩), .slice (some ⟨pb, 0, none⟩) p.length cap, .string str, .int .i64 from_] w fun e w' => e = .returned (.tuple #[.bool (dOk p str from_), .int .i64 (dErr p str from_)]) ∧ (∃ f, Blk w' m 3 f) ∧ Fr (fun b => b = m) w w' := by
  obtain ⟨f, hb, hf⟩ := h
  have c0 : w.cell? ⟨m, 0, none⟩ = some (.int .i64 0) := by rw [hb.cell (by omega), hf]
  have z0 := hb.frozen
  have hml := hb.lt
  have f1 : Fr (fun b => b = m) w (w.setCell ⟨m, 0, none⟩ (.int .i64 1)) := (Fr.refl _ _).setC _ _ _ (fun _ => rfl)
  have hp1 : PAt (w.setCell ⟨m, 0, none⟩ (.int .i64 1)) pb p := by
    by_cases e : p = []
    · subst e; intro i hi; simp at hi
    · exact hp.frame f1 (hpm e)
  go_enter Try.func34, Try.ntmps34
  go_wp2_with fail
  refine (runProg_any p pb cap hp1 hlen str from_).mono ?_
  rintro e w2 ⟨⟨c, rfl⟩, f2⟩
  unfold foundV
  have hb2 := (hb.set 0 (.int .i64 1)).frame f2 (by simp)
  have d1 := hb2.cell (o := 1) (by omega)
  have d2 := hb2.cell (o := 2) (by omega)
  have z2 := hb2.frozen
  have hml2 := hb2.lt
  have f02 : Fr (fun b => b = m) w w2 := f1.trans f2 (fun _ _ h => h.elim)
  go_wp2_with fail
  go_region_with (fail)
  all_goals
    go_wp2_with fail
    refine wp_region_text (by kernel_rfl) (by kernel_rfl) ?_
    go_wp2_with fail
    refine ⟨by kernel_rfl, ?_⟩
    go_wp2_with fail
    refine bodyPost_ret (v := .tuple #[.bool (dOk p str from_), .int .i64 (dErr p str from_)]) (by simp [results, Try.results34, go_sem]) rfl ⟨rfl, ⟨_, ((((hb2.set 1 _).set 2 _).alloc _).drew.drew)⟩, ?_⟩
    exact ((((f02.setC m 1 _ (fun _ => rfl)).setC m 2 _ (fun _ => rfl)).alloc _).drew).drew
set_option maxHeartbeats 400000 in
theorem mark_any {w : World} {m : Nat} (h : ∃ f, Blk w m 3 f) : Calls Try.prog 15 #[.pointer (some ⟨m, 0, none⟩)] w fun e w' => e = .returned (.tuple #[]) ∧ (∃ f, Blk w' m 3 f ∧ f 0 = .int .i64 0) ∧ Fr (fun b => b = m) w w' := by
  obtain ⟨f, hb⟩ := h
  have c0 := hb.cell (o := 0) (by omega)
  have z0 := hb.frozen
  go_enter Try.func15, Try.ntmps15
  go_wp2_with fail
  go_end0
  exact ⟨rfl, ⟨_, hb.set 0 _, upd_same _ _ _⟩, (Fr.refl _ _).setC _ _ _ (fun _ => rfl)⟩
set_option maxHeartbeats 400000 in
theorem mnew_any (w : World) : Calls Try.prog 9 #[] w fun e w' => e = .returned (.pointer (some ⟨w.heap.size, 0, none⟩)) ∧ (∃ f, Blk w' w.heap.size 3 f) ∧ Fr (fun _ => False) w w' := by
  go_enter Try.func9, Try.ntmps9
  go_wp2_with fail
  go_ret
  refine ⟨rfl, ⟨_, Blk.new w _ _ (fun o => (#[.int .i64 0, .bool false, .int .i64 0] : Array Value).getD o undef) (fun o ho => ?_)⟩, (Fr.refl _ _).alloc _⟩
  simp at ho
  simp [ho]
set_option maxHeartbeats 400000 in
theorem ground_any (w : World) : Calls Try.prog 10 #[] w fun e w' => e = .returned (.agg #[]) ∧ Fr (fun _ => False) w w' := by
  go_enter Try.func10, Try.ntmps10
  go_wp2
  exact bodyPost_ret (v := .agg #[]) (by simp [results, Try.results10, go_sem]) rfl ⟨rfl, (Fr.refl _ _).alloc _⟩
set_option maxHeartbeats 400000 in
theorem room_any (str : ByteArray) (n : Nat) (hn : n ≤ str.size) (hs : str.size ≤ 256) (w : World) : Calls Try.prog 17 #[.string str, .int .i64 n] w fun e w' => e = .returned (.int .i64 ((str.size - n + 1 : Nat) : Int)) ∧ w' = w := by
  have e : ((str.size - n + 1 : Nat) : Int) = (str.size : Int) - n + 1 := by omega
  rw [e]
  go_enter Try.func17, Try.ntmps17
  go_wp2
  go_ret
  exact ⟨rfl, rfl⟩
set_option maxRecDepth 100000 in
set_option maxHeartbeats 4000000 in
theorem scribble_any {w : World} {b n cap m : Nat} {f : Nat → Value} (hb : Blk w b m f) (hm : n * 7 ≤ m) (hn : n ≤ 65) : Calls Try.prog 35 #[.slice (some ⟨b, 0, none⟩) n cap] w fun e w' => e = .returned (.tuple #[]) ∧ (∃ f, Blk w' b m f) ∧ Fr (fun c => c = b) w w' := by
  go_enter Try.func35, Try.ntmps35
  go_wp2_with fail
  go_loopg [2] n (fun g iv wr => ∃ (i : Nat) (f : Nat → Value), iv = .int .i64 i ∧ i + g = n ∧ Blk wr b m f ∧ Fr (fun c => c = b) w wr)
  case atStart => exact ⟨0, f, rfl, by omega, hb, Fr.refl _ _⟩
  case round =>
    obtain ⟨i, f, rfl, hg, hb, hfr⟩ := hrel
    have hg' : i + gk = n := hg
    have z := hb.frozen
    clear hg
    by_cases hlt : i < n
    · have a0 := hb.cell (o := i * 7) (by omega)
      have a1 := hb.cell (o := i * 7 + 1) (by omega)
      have a2 := hb.cell (o := i * 7 + 2) (by omega)
      have a3 := hb.cell (o := i * 7 + 3) (by omega)
      have a4 := hb.cell (o := i * 7 + 4) (by omega)
      have a5 := hb.cell (o := i * 7 + 5) (by omega)
      have a6 := hb.cell (o := i * 7 + 6) (by omega)
      go_wp2_with fail
      go_roundg (gk - 1)
      case measure => omega
      case rel =>
        refine ⟨i + 1, _, by simp, by omega, (((((((hb.set (i * 7) _).set (i * 7 + 1) _).set (i * 7 + 2) _).set (i * 7 + 3) _).set (i * 7 + 4) _).set (i * 7 + 5) _).set (i * 7 + 6) _), ?_⟩
        iterate 7 refine Fr.setC ?_ _ _ _ (fun _ => rfl)
        exact hfr
    · go_wp2_with fail
      go_end0
      exact ⟨rfl, ⟨f, hb⟩, hfr⟩
end Go.Proofs.Qxb6500282a
