import Derived.Test.Qxb6500283aGreatDfD11
namespace Go.Proofs.Qxb6500283aGreat
open Go Go.RowKit

theorem DInv.sized {w : World} {x : Nat} {kv : Value} {K : List In} {s : DS} (h : DInv w x kv K s) : ∀ c, c < 6 → s.keys c < 18446744073709551616 := fun c hc => by
  by_cases hu : c < s.used
  · exact (h.inv.good c hu).lt
  · rw [h.inv.kz c (by omega) hc]; omega

/-- From the adoption on: the first closure, its cell, the run. -/
def TailPost (w : World) (x : Nat) (kv : Value) (s : DS) (p : List In) (str : ByteArray) (from_ : Nat) : Ending → World → Prop := fun e w' =>
  ∃ (ans : Bool) (s' : DS), e = .returned (.tuple #[.bool ans, .int .i64 0]) ∧ (ans = true ↔ AnsP p str from_) ∧ Mach w' x kv s' ∧ AnyG p s s' (str.size - from_) true ∧ s'.flushes ≤ s.flushes + (str.size - from_) + 1 ∧ Fr (mOwn x) w w'

set_option maxRecDepth 100000 in
set_option maxHeartbeats 8000000 in
theorem any_same {w : World} {x : Nat} {kv : Value} {s : DS} {p : List In} {pb pc : Nat} (h : DInv w x kv p s) (hp : PAt w pb p) (hok : OkProg p) (str : ByteArray) (hsz : str.size ≤ 256) (from_ : Nat) (hfrom : from_ ≤ str.size)
    (h1 : s.built < 999999999999980000) (h2 : s.flushes < 999999999999980000) (h3 : s.worked < 999999999999980000) :
    Calls Tryz.prog 74 #[.pointer (some ⟨x, 0, none⟩), .slice (some ⟨pb, 0, none⟩) p.length pc, .string str, .int .i64 from_] w (TailPost w x kv s p str from_) := by
  obtain ⟨kb, cap, hk⟩ : ∃ kb cap, KeptD w x kv kb cap p := by
    rcases h.kv with ⟨_, e⟩ | h
    · have := hok.pos; rw [e] at this; simp at this
    · exact h
  have hm := hok.max
  have t1 : decide ((256 : Int) < (str.size : Int)) = false := by simp; omega
  have t2 : decide ((from_ : Int) < 0) = false := by simp
  have t3 : decide ((str.size : Int) < (from_ : Int)) = false := by simp; omega
  have hpo := (progOK_iff p).2 hok
  have hu := h.inv.used
  go_enter Tryz.func74, Tryz.ntmps74
  go_wp2_with fail
  refine (progok_any p pb pc hp (by omega)).mono ?_
  rintro e w2 ⟨rfl, f2⟩
  rw [hpo]
  have hp2 := hp.frame f2 (by simp)
  have hM2 := h.mach.frame f2 (fun _ _ h => h)
  have hkv2 := h.kv.frame f2 (fun _ _ _ _ h => h)
  go_wp2_with fail
  refine (adopt_same hM2 hkv2 hp2 hok).mono ?_
  rintro e w3 ⟨rfl, f3⟩
  have hM3 := hM2.frame f3 (fun _ _ h => h)
  have hk3 := (hk.frame f2 (fun h => h)).frame f3 (fun h => h)
  have f03 : Fr (mOwn x) w w3 := (f2.trans f3 (fun _ _ h => h)).mono (fun _ _ h => h.elim)
  go_wp2_with fail
  refine (closure_any hM3 hk3 1 (by omega) (by omega) _ false).mono ?_
  rintro e w4 ⟨S, stk', rfl, hSl, hSq, hSi, hM4, f4⟩
  go_wp2_with fail
  refine (cellOf_any hM4 S hu (by show s.built < _; omega) (by show s.flushes < _; omega)).mono ?_
  rintro e w5 ⟨c, s2, rfl, hcr, hM5, f5⟩
  have hk5 := (hk3.frame f4 hk.far).frame f5 hk.far
  have g := good_clo hSl hSq hSi ⟨hok.pos, rfl⟩
  have cp := CellR.p (h.inv.congr (t := { s with stk := stk', worked := s.worked + 1 }) rfl rfl rfl rfl rfl rfl) g hcr
  have q1 := cp.b1; have q2 := cp.f1; have q3 := cp.wk
  simp only at q1 q2 q3
  have hrd := first_rd (str := str) hSq
  go_wp2_with fail
  refine (run_any hM5 hk5 cp.inv str hsz from_ hfrom c cp.lt (by rw [cp.key]; exact hrd) (by omega) (by omega) (by omega)).mono ?_
  rintro e w6 ⟨ans, s3, s4, rfl, hans, hr, h4, hM6, f6⟩
  have ag := any_tail (str := str) hok h.inv rfl hSl hSq hSi hcr hr h4
  go_wp2_with fail
  exact bodyPost_ret (v := .tuple #[.bool ans, .int .i64 0]) (by simp [results, Tryz.results74, go_sem]) rfl ⟨ans, s4, rfl, hans, hM6, ag.1, ag.2, ((f03.trans f4 (fun _ _ h => h)).trans f5 (fun _ _ h => h)).trans f6 (fun _ _ h => h)⟩

set_option maxRecDepth 100000 in
set_option maxHeartbeats 8000000 in
theorem any_new {w : World} {x : Nat} {kv : Value} {s : DS} {K p : List In} {pb pc : Nat} {fp : Nat → Value} (h : DInv w x kv K s) (hne : p ≠ K) (hpb : Blk w pb (pc * 7) fp) (hpf : Holds7 fp p) (hpl : p.length ≤ pc) (hfar : ¬ mOwn x pb) (hok : OkProg p) (str : ByteArray) (hsz : str.size ≤ 256) (from_ : Nat) (hfrom : from_ ≤ str.size)
    (h1 : s.built < 999999999999980000) (h2 : s.flushes < 999999999999980000) (h3 : s.worked < 999999999999980000) :
    Calls Tryz.prog 74 #[.pointer (some ⟨x, 0, none⟩), .slice (some ⟨pb, 0, none⟩) p.length pc, .string str, .int .i64 from_] w fun e w' => ∃ (ans : Bool) (s' : DS) (kb : Nat), e = .returned (.tuple #[.bool ans, .int .i64 0]) ∧ (ans = true ↔ AnsP p str from_) ∧ w.heap.size ≤ kb ∧ Mach w' x (.slice (some ⟨kb, 0, none⟩) p.length p.length) s' ∧ KeptD w' x (.slice (some ⟨kb, 0, none⟩) p.length p.length) kb p.length p ∧ AnyG p s s' (str.size - from_) false ∧ Fr (mOwn x) w w' := by
  have hp : PAt w pb p := hpf.at hpb (by omega)
  have hm := hok.max
  have t1 : decide ((256 : Int) < (str.size : Int)) = false := by simp; omega
  have t2 : decide ((from_ : Int) < 0) = false := by simp
  have t3 : decide ((str.size : Int) < (from_ : Int)) = false := by simp; omega
  have hpo := (progOK_iff p).2 hok
  have hu := h.inv.used
  go_enter Tryz.func74, Tryz.ntmps74
  go_wp2_with fail
  refine (progok_any p pb pc hp (by omega)).mono ?_
  rintro e w2 ⟨rfl, f2⟩
  rw [hpo]
  have hpb2 := hpb.frame f2 (by simp)
  have hM2 := h.mach.frame f2 (fun _ _ h => h)
  have hkv2 := h.kv.frame f2 (fun _ _ _ _ h => h)
  go_wp2_with fail
  refine (adopt_new hM2 hkv2 hne hpb2 hpf hpl hfar hok hu (by omega)).mono ?_
  rintro e w3 ⟨rfl, kb, s0, hkb1, hkb2, had, hM3, hk3, f3⟩
  have hs2 := f2.size
  obtain ⟨ai, a1, a2, a3, a4⟩ := had.inv h.inv
  have f03 : Fr (mOwn x) w w3 := (f2.mono (fun _ _ h => h.elim)).trans f3 (fun _ _ h => h)
  go_wp2_with fail
  refine (closure_any hM3 hk3 1 (by omega) (by omega) _ false).mono ?_
  rintro e w4 ⟨S, stk', rfl, hSl, hSq, hSi, hM4, f4⟩
  go_wp2_with fail
  refine (cellOf_any hM4 S ai.used (by show s0.built < _; omega) (by show s0.flushes < _; omega)).mono ?_
  rintro e w5 ⟨c, s2, rfl, hcr, hM5, f5⟩
  have hk5 := (hk3.frame f4 hk3.far).frame f5 hk3.far
  have g := good_clo hSl hSq hSi ⟨hok.pos, rfl⟩
  have cp := CellR.p (ai.congr (t := { s0 with stk := stk', worked := s0.worked + 1 }) rfl rfl rfl rfl rfl rfl) g hcr
  have q1 := cp.b1; have q2 := cp.f1; have q3 := cp.wk
  simp only at q1 q2 q3
  have hrd := first_rd (str := str) hSq
  go_wp2_with fail
  refine (run_any hM5 hk5 cp.inv str hsz from_ hfrom c cp.lt (by rw [cp.key]; exact hrd) (by omega) (by omega) (by omega)).mono ?_
  rintro e w6 ⟨ans, s3, s4, rfl, hans, hr, h4, hM6, f6⟩
  have ag := any_tail (str := str) hok ai rfl hSl hSq hSi hcr hr h4
  go_wp2_with fail
  exact bodyPost_ret (v := .tuple #[.bool ans, .int .i64 0]) (by simp [results, Tryz.results74, go_sem]) rfl ⟨ans, s4, kb, rfl, hans, by omega, hM6, hk5.frame f6 hk3.far, ag.1.anew h.inv had ag.2, ((f03.trans f4 (fun _ _ h => h)).trans f5 (fun _ _ h => h)).trans f6 (fun _ _ h => h)⟩
end Go.Proofs.Qxb6500283aGreat
