import Derived.Test.Qxb6500284aWLaw7
namespace Go.Proofs.Qxb6500284a
open Go Go.RowKit

def MB (w : World) (m c : Nat) : Prop := ∃ f, Blk w m 12 f ∧ f 0 = .int .i64 c
theorem MB.set {w : World} {m c : Nat} (h : MB w m c) {o : Nat} (v : Value) (ho : o ≠ 0) : MB (w.setCell ⟨m, o, none⟩ v) m c := by
  obtain ⟨f, h1, h2⟩ := h
  exact ⟨_, h1.set o v, by simp [upd, Ne.symm ho, h2]⟩
theorem MB.setOther {w : World} {m c b o : Nat} (h : MB w m c) {v : Value} (hb : m ≠ b) : MB (w.setCell ⟨b, o, none⟩ v) m c := by
  obtain ⟨f, h1, h2⟩ := h
  exact ⟨_, h1.setOther _ _ hb, h2⟩
theorem MB.frame {S : Nat → Prop} {w w' : World} {m c : Nat} (h : MB w m c) (k : Fr S w w') (hb : ¬ S m) : MB w' m c := by
  obtain ⟨f, h1, h2⟩ := h
  exact ⟨_, h1.frame k hb, h2⟩

set_option maxRecDepth 100000 in
set_option maxHeartbeats 2000000 in
theorem msearch_any {w : World} {m : Nat} {c : Nat} (hM : MB w m c) (hc2 : c < 5000000000000) (p : List In) (pb cap : Nat) (hp : PAt w pb p) (hpb : pb ≠ m) (hlen : p.length < 1000000) (str : ByteArray) (from_ : Int) :
    Calls Try.prog 23 #[.pointer (some ⟨m, 0, none⟩), .slice (some ⟨pb, 0, none⟩) p.length cap, .string str, .int .i64 from_] w fun e w' =>
      e = .returned (foundV (ansErr p str from_) 0 (ansOk p str from_) (ansC p str from_)) ∧ MB w' m (c + 1) ∧ Fr (fun b => b = m) w w' := by
  obtain ⟨f, hm, hc⟩ := hM
  have c0 : w.cell? ⟨m, 0, none⟩ = some (.int .i64 c) := by rw [hm.cell (by omega), hc]
  have z0 := hm.frozen
  have hml := hm.lt
  obtain ⟨E, hE⟩ : ∃ E, E = ansErr p str from_ := ⟨_, rfl⟩
  obtain ⟨O, hO⟩ : ∃ O, O = ansOk p str from_ := ⟨_, rfl⟩
  obtain ⟨C, hC⟩ : ∃ C, C = ansC p str from_ := ⟨_, rfl⟩
  rw [← hE, ← hO, ← hC]
  have HE : Hid _ := hE
  have HO : Hid _ := hO
  have HC : Hid _ := hC
  clear hE hO hC
  unfold foundV
  go_enter Try.func23, Try.ntmps23
  go_wp2_with fail
  have fr : Fr (fun b => b = m) w ((w.setCell ⟨m, 0, none⟩ (.int .i64 (c + 1))).alloc (.cells #[.int .i64 0, .int .i64 0, .bool false, .int .i64 0, .int .i64 0, .int .i64 0, .int .i64 0, .int .i64 0, .int .i64 0, .int .i64 0, .int .i64 0] 55)) := ((Fr.refl (fun b => b = m) w).setC _ _ _ (fun _ => rfl)).alloc _
  have hm1 := (hm.set 0 (.int .i64 (c + 1))).alloc (.cells #[.int .i64 0, .int .i64 0, .bool false, .int .i64 0, .int .i64 0, .int .i64 0, .int .i64 0, .int .i64 0, .int .i64 0, .int .i64 0, .int .i64 0] 55)
  refine (run_all p pb cap (hp.frame fr hpb) hlen str from_).mono ?_
  rintro e w1 ⟨rfl, f1⟩
  rw [← HE.out, ← HO.out, ← HC.out]
  unfold foundV
  have hm2 := hm1.frame f1 (by simp)
  have hc := f1.newCell (by simp)
  have hf := f1.newFrozen (by simp)
  simp [World.setCell] at hc hf
  have y1 := hm2.cell (show 1 < 12 by omega)
  have y2 := hm2.cell (show 2 < 12 by omega)
  have y3 := hm2.cell (show 3 < 12 by omega)
  have y4 := hm2.cell (show 4 < 12 by omega)
  have y5 := hm2.cell (show 5 < 12 by omega)
  have y6 := hm2.cell (show 6 < 12 by omega)
  have y7 := hm2.cell (show 7 < 12 by omega)
  have y8 := hm2.cell (show 8 < 12 by omega)
  have y9 := hm2.cell (show 9 < 12 by omega)
  have y10 := hm2.cell (show 10 < 12 by omega)
  have y11 := hm2.cell (show 11 < 12 by omega)
  have yz := hm2.frozen
  go_wp2_with fail
  have hn1 : m ≠ w.heap.size := by omega
  refine bodyPost_ret (v := foundV E 0 O C) (by simp [results, Try.results23, go_sem, foundV, hc]) rfl ⟨rfl, ?_, ?_⟩
  · iterate 11 refine MB.setOther ?_ hn1
    iterate 11 refine MB.set ?_ _ (by omega)
    exact ⟨_, hm2, by simp [upd]⟩
  · iterate 11 refine Fr.setNew ?_ (Nat.le_refl _)
    iterate 11 refine Fr.setC ?_ m _ _ (fun _ => rfl)
    exact fr.trans f1 (fun _ _ h => h.elim)
end Go.Proofs.Qxb6500284a
