import Derived.Test.Qxb6500283aGreatDfD7
namespace Go.Proofs.Qxb6500283aGreat
open Go Go.RowKit

theorem Mach.setKept {w : World} {x : Nat} {kv : Value} {s : DS} (h : Mach w x kv s) (v : Value) (K : List In) : Mach (w.setCell ⟨x, 0, none⟩ v) x v { s with kept := K } :=
  h.setM 0 _ rfl rfl fun k hk => by rcases lt16 hk with rfl | rfl | rfl | rfl | rfl | rfl | rfl | rfl | rfl | rfl | rfl | rfl | rfl | rfl | rfl | rfl <;> simp [upd, mcell]
def AdoptR (s : DS) (p : List In) (s' : DS) : Prop := ∃ C E H, IsMask p C 0 ∧ IsMask p E 5 ∧ IsMask p H 6 ∧ s' = { flushD s with kept := p, chars := C, ends := E, hits := H }
set_option maxRecDepth 100000 in
set_option maxHeartbeats 4000000 in
theorem adopt_same {w : World} {x : Nat} {kv : Value} {s : DS} {p : List In} {pb pc : Nat} (h : Mach w x kv s) (hk : KV w x kv p) (hp : PAt w pb p) (hok : OkProg p) :
    Calls Tryz.prog 95 #[.pointer (some ⟨x, 0, none⟩), .slice (some ⟨pb, 0, none⟩) p.length pc] w fun e w' => e = .returned (.tuple #[]) ∧ Fr (fun _ => False) w w' := by
  go_enter Tryz.func95, Tryz.ntmps95
  go_wp2_with fail
  refine (isKept_any h hk hp hok).mono ?_
  rintro e w2 ⟨rfl, f2⟩
  rw [(sameP_iff p p).2 rfl]
  go_wp2_with fail
  exact bodyPost_ret (v := .tuple #[]) (by simp [results, Tryz.results95, go_sem]) rfl ⟨rfl, f2⟩
set_option maxRecDepth 100000 in
set_option maxHeartbeats 4000000 in
theorem adopt_new {w : World} {x : Nat} {kv : Value} {s : DS} {K p : List In} {pb pc : Nat} {fp : Nat → Value} (h : Mach w x kv s) (hk : KV w x kv K) (hne : p ≠ K) (hpb : Blk w pb (pc * 7) fp) (hpf : Holds7 fp p) (hpl : p.length ≤ pc) (hfar : ¬ mOwn x pb) (hok : OkProg p) (hu : s.used ≤ 6) (hf : s.flushes < 1000000000000000000) :
    Calls Tryz.prog 95 #[.pointer (some ⟨x, 0, none⟩), .slice (some ⟨pb, 0, none⟩) p.length pc] w fun e w' => e = .returned (.tuple #[]) ∧ ∃ kb s', w.heap.size ≤ kb ∧ kb < w'.heap.size ∧ AdoptR s p s' ∧ Mach w' x (.slice (some ⟨kb, 0, none⟩) p.length p.length) s' ∧ KeptD w' x (.slice (some ⟨kb, 0, none⟩) p.length p.length) kb p.length p ∧ Fr (mOwn x) w w' := by
  have hp : PAt w pb p := hpf.at hpb (by omega)
  have hm := hok.max
  have hn := sameP_no hne
  clear hne
  go_enter Tryz.func95, Tryz.ntmps95
  go_wp2_with fail
  refine (isKept_any h hk hp hok).mono ?_
  rintro e w2 ⟨rfl, f2⟩
  rw [hn]
  have h2 := h.frame f2 (fun _ _ h => h)
  go_wp2_with fail
  refine (flush_any h2 hu hf).mono ?_
  rintro e w3 ⟨rfl, h3, f3⟩
  have f23 : Fr (mOwn x) w w3 := (f2.mono (fun _ _ h => h.elim)).trans f3 (fun _ _ h => h)
  have hc3 : CodeAt w3 (.slice (some ⟨pb, 0, none⟩) p.length pc) p := .inr ⟨pb, pc, fp, rfl, hpl, hpb.frame f23 hfar, hpf⟩
  go_wp2_with fail
  refine (copyProg_any hc3 (by omega)).mono ?_
  rintro e w4 ⟨rfl, f4, hs4, fc, hbc, hfc⟩
  have h4 := h3.frame f4 (fun _ _ h => h)
  have c0 : w4.cell? ⟨x, 0, none⟩ = some kv := h4.main.cell (by omega)
  have z4 := h4.main.frozen
  have h5 := h4.setKept (.slice (some ⟨w3.heap.size, 0, none⟩) p.length p.length) p
  have hxl := h3.lt
  have hs3 := f23.size
  have hk5 : KeptD (w4.setCell ⟨x, 0, none⟩ (.slice (some ⟨w3.heap.size, 0, none⟩) p.length p.length)) x (.slice (some ⟨w3.heap.size, 0, none⟩) p.length p.length) w3.heap.size p.length p :=
    ⟨rfl, (hfc.at hbc (Nat.le_refl _)).frame ((Fr.refl (fun b => b = x) w4).setC x 0 _ (fun _ => rfl)) (by omega), by unfold mOwn; omega, hok⟩
  have f5 : Fr (mOwn x) w (w4.setCell ⟨x, 0, none⟩ (.slice (some ⟨w3.heap.size, 0, none⟩) p.length p.length)) := (f23.trans (f4.mono (S' := mOwn x) (fun _ _ h => h.elim)) (fun _ _ h => h)).mset0 _ _
  go_wp2_with fail
  refine (masks_any h5 hk5).mono ?_
  rintro e w6 ⟨C, E, H, rfl, mC, mE, mH, h6, f6⟩
  have hs6 := f6.size
  simp only [World.size_setCell] at hs6
  go_wp2_with fail
  go_end0
  exact ⟨rfl, w3.heap.size, _, hs3, by omega, ⟨C, E, H, mC, mE, mH, rfl⟩, h6, hk5.frame f6 hk5.far, f5.trans f6 (fun _ _ h => h)⟩

def IsStep (p : List In) (S c T : Nat) : Prop := T < 18446744073709551616 ∧ (∀ q, T.testBit q = true ↔ Clo p false false (fun q => q < p.length ∧ MoveTo p S c p.length q) q) ∧ ∀ q, T.testBit q = true → q < p.length
def StepRD (p : List In) (s : DS) (cell c : Nat) (s' : DS) (to : Nat) : Prop :=
  (s.next (cell * 256 + c) = to ∧ s' = s) ∨
  (s.next (cell * 256 + c) < 0 ∧ ∃ T stk' s2, IsStep p (s.keys cell) c T ∧ CellR { s with stk := stk', worked := s.worked + 1 } T to s2 ∧ s' = if s2.flushes = s.flushes then { s2 with next := upd s2.next (cell * 256 + c) to } else s2)
theorem IsStep.of {p : List In} {S c M T : Nat} (hM : ∀ q, M.testBit q = true ↔ MoveTo p S c p.length q) (hT : T < 18446744073709551616) (h : ∀ q, T.testBit q = true ↔ Clo p false false (fun q => q < p.length ∧ M.testBit q = true) q) (hl : ∀ q, T.testBit q = true → q < p.length) : IsStep p S c T := by
  refine ⟨hT, fun q => ?_, hl⟩
  rw [h q]
  have e : (fun q => q < p.length ∧ M.testBit q = true) = fun q => q < p.length ∧ MoveTo p S c p.length q := by funext q; rw [hM q]
  rw [e]
structure Sized (s : DS) : Prop where
  used : s.used ≤ 6
  keys : ∀ c, c < 6 → s.keys c < 18446744073709551616
  built : s.built < 999999999999999990
  fl : s.flushes < 999999999999999990
  wk : s.worked < 999999999999999990

set_option maxRecDepth 100000 in
set_option maxHeartbeats 4000000 in
theorem stepD_any {w : World} {x : Nat} {kv : Value} {s : DS} {kb cap : Nat} {p : List In} (h : Mach w x kv s) (hk : KeptD w x kv kb cap p) (hcm : IsMask p s.chars 0) (hz : Sized s) (cell c : Nat) (hcell : cell < 6) (hc : c < 256) :
    Calls Tryz.prog 132 #[.pointer (some ⟨x, 0, none⟩), .int .i64 cell, .int .u8 c] w fun e w' => ∃ to s', e = .returned (.int .i64 (to : Nat)) ∧ StepRD p s cell c s' to ∧ Mach w' x kv s' ∧ Fr (mOwn x) w w' := by
  have c11 : w.cell? ⟨x, 11, none⟩ = some (.slice (some ⟨x + 1, 0, none⟩) 1536 1536) := h.main.cell (by omega)
  have hat : cell * 256 + c < 1536 := by omega
  have hat2 : (cell : Int) * 256 + c < 1536 := by omega
  have n0 : w.cell? ⟨x + 1, cell * 256 + c, none⟩ = some (.int .i64 (s.next (cell * 256 + c))) := h.nx.cell hat
  by_cases hp : 0 ≤ s.next (cell * 256 + c)
  · obtain ⟨to, hto⟩ := Int.eq_ofNat_of_zero_le hp
    rw [hto] at n0
    have Ht : Hid _ := hto
    clear hp hto
    go_enter Tryz.func132, Tryz.ntmps132
    go_wp2_with fail
    go_ret
    exact ⟨to, s, rfl, .inl ⟨Ht.out, rfl⟩, h, Fr.refl _ _⟩
  · have ck := h.key cell hcell
    obtain ⟨N, hN⟩ : ∃ N, N = s.next (cell * 256 + c) := ⟨_, rfl⟩
    rw [← hN] at n0 hp
    have t1 : decide (0 ≤ N) = false := by simp; omega
    have HN : Hid (s.next (cell * 256 + c) < 0) := by show s.next (cell * 256 + c) < 0; omega
    clear hp hN
    go_enter Tryz.func132, Tryz.ntmps132
    go_wp2_with fail
    refine (move_any h hk hcm (s.keys cell) c (hz.keys cell hcell) hc).mono ?_
    rintro e w2 ⟨M, rfl, hMl, hMq, f2⟩
    have h2 := h.frame f2 (fun _ _ h => h)
    have hk2 := hk.frame f2 (fun h => h)
    go_wp2_with fail
    refine (closure_any h2 hk2 M hMl (by have := hz.wk; omega) false false).mono ?_
    rintro e w3 ⟨T, stk', rfl, hTl, hTq, hTi, h3, f3⟩
    have hst := IsStep.of hMq hTl hTq hTi
    have d14 : w3.cell? ⟨x, 14, none⟩ = some (.int .i64 s.flushes) := h3.main.cell (by omega)
    go_wp2_with fail
    refine (cellOf_any h3 T hz.used (by have := hz.built; show s.built < _; omega) (by have := hz.fl; show s.flushes < _; omega)).mono ?_
    rintro e w4 ⟨to, s2, rfl, hcr, h4, f4⟩
    have e14 : w4.cell? ⟨x, 14, none⟩ = some (.int .i64 s2.flushes) := h4.main.cell (by omega)
    have e11 : w4.cell? ⟨x, 11, none⟩ = some (.slice (some ⟨x + 1, 0, none⟩) 1536 1536) := h4.main.cell (by omega)
    have fr4 : Fr (mOwn x) w w4 := ((f2.mono (S' := mOwn x) (fun _ _ h => h.elim)).trans f3 (fun _ _ h => h)).trans f4 (fun _ _ h => h)
    by_cases hfl : s2.flushes = s.flushes
    · rw [hfl] at e14
      obtain ⟨v0, hv0⟩ : ∃ v, w4.cell? ⟨x + 1, cell * 256 + c, none⟩ = some v := ⟨_, h4.nx.cell hat⟩
      have zn := h4.nx.frozen
      have h5 := h4.setN (cell * 256 + c) to
      have H5 : Hid _ := h5
      have Hfl : Hid _ := hfl
      clear hfl h5
      go_wp2_with fail
      go_ret
      exact ⟨to, _, rfl, .inr ⟨HN.out, T, stk', s2, hst, hcr, (if_pos Hfl.out).symm⟩, H5.out, fr4.mset 1 _ _ (by omega)⟩
    · have t2 : ((s2.flushes : Int) == (s.flushes : Int)) = false := by simp; omega
      have Hfl : Hid _ := hfl
      clear hfl
      go_wp2_with fail
      go_ret
      exact ⟨to, _, rfl, .inr ⟨HN.out, T, stk', s2, hst, hcr, (if_neg Hfl.out).symm⟩, h4, fr4⟩
end Go.Proofs.Qxb6500283aGreat
