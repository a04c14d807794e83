/- compile. -/
import Derived.Test.Qxb6500283aGreatY9
import Derived.Test.Qxb6500283aGreatPkCode
namespace Go.Proofs.Qxb6500283aGreat
open Go Go.RowKit

theorem WksAt.pop {w : World} {v : Value} {p : List Wk} {x : Wk} (h : WksAt w v (p ++ [x])) : ∃ b cap, v = .slice (some ⟨b, 0, none⟩) (p.length + 1) cap ∧ p.length + 1 ≤ cap ∧ WksAt w (.slice (some ⟨b, 0, none⟩) p.length cap) p ∧ ∀ j, j < 3 → w.cell? ⟨b, p.length * 3 + j, none⟩ = some (wkCell x j) := by
  rcases h with ⟨_, h⟩ | ⟨b, cap, f, rfl, hc, hb, hf⟩
  · simp at h
  · rw [one_appendK] at hc ⊢
    refine ⟨b, cap, rfl, hc, .inr ⟨b, cap, f, rfl, by omega, hb, fun i hi j hj => ?_⟩, fun j hj => ?_⟩
    · have := hf i (by rw [one_appendK]; omega) j hj
      rw [List.getElem_append_left hi] at this
      exact this
    · have := hf p.length (by rw [one_appendK]; omega) j hj
      rw [List.getElem_append_right (Nat.le_refl _)] at this
      simp only [Nat.sub_self, List.getElem_cons_zero] at this
      rw [hb.cell (by omega), this]
theorem BMem.pop {D : Nat → Prop} {w : World} {r : Nat} {nv : Value} {code : List In} {p : List Wk} {x : Wk} (h : BMem D w r nv code (p ++ [x])) :
    ∃ b cap, w.cell? ⟨r, 2, none⟩ = some (.slice (some ⟨b, 0, none⟩) (p.length + 1) cap) ∧ p.length + 1 ≤ cap ∧ b < w.heap.size ∧ r < b ∧ (∀ j, j < 3 → w.cell? ⟨b, p.length * 3 + j, none⟩ = some (wkCell x j)) ∧ (∀ o, w.frozen? ⟨r, o, none⟩ = false) ∧
      ∀ {S : Nat → Prop} {w' : World}, Fr S w w' → (∀ b, D b → ¬ S b) → BMem D (w'.setCell ⟨r, 2, none⟩ (.slice (some ⟨b, 0, none⟩) p.length cap)) r nv code p := by
  obtain ⟨dr, cv, tv, hb, hC, hT, hcr, htr, hct⟩ := h
  have c2 := hb.cell (o := 2) (by omega)
  simp only [bCell] at c2
  have hlt := hT.lt
  obtain ⟨b, cap, rfl, h1, h2, h3⟩ := hT.pop
  refine ⟨b, cap, c2, h1, hlt b _ _ rfl, (htr b _ _ rfl).2, h3, hb.frozen, fun {S w'} k hS => ?_⟩
  have hb' := hb.frame k (hS r dr)
  have hC' := hC.frame k (fun b n c e => hS b (hcr b n c e).1)
  have hT' := h2.frame k (fun b' n c e => hS b' (by cases e; exact (htr _ _ _ rfl).1))
  have k2 := (Fr.refl (fun b => b = r) w').setC r 2 (.slice (some ⟨b, 0, none⟩) p.length cap) (fun _ => rfl)
  refine ⟨dr, cv, _, (hb'.set 2 _).congr (bCell2 _ _ _ _), hC'.frame k2 (fun b n c e h => by have := (hcr b n c e).2; omega), hT'.frame k2 (fun b' n c e h => by cases e; have := (htr _ _ _ rfl).2; omega), hcr, fun b' n c e => ?_, fun b' n c n' c' e e' => ?_⟩
  · cases e; exact htr _ _ _ rfl
  · cases e'; exact hct _ _ _ _ _ e rfl
theorem BMem.new (w : World) (nv : Value) : BMem (fun b => w.heap.size ≤ b) (w.alloc (.cells #[nv, .slice none 0 0, .slice none 0 0] 178)) w.heap.size nv [] [] := by
  refine ⟨Nat.le_refl _, .slice none 0 0, .slice none 0 0, Blk.new w _ _ _ fun o ho => ?_, .inl ⟨rfl, rfl⟩, .inl ⟨rfl, rfl⟩, fun b n c e => (by cases e), fun b n c e => (by cases e), fun b n c n' c' e => (by cases e)⟩
  have ho : o < 3 := by simpa using ho
  obtain rfl | rfl | rfl : o = 0 ∨ o = 1 ∨ o = 2 := by omega
  all_goals rfl
theorem BMem.todo {D : Nat → Prop} {w : World} {r : Nat} {nv : Value} {code : List In} {p : List Wk} (h : BMem D w r nv code p) : ∃ a c, w.cell? ⟨r, 2, none⟩ = some (.slice a p.length c) := by
  obtain ⟨dr, cv, tv, hb, hC, hT, _⟩ := h
  have c2 := hb.cell (o := 2) (by omega)
  simp only [bCell] at c2
  obtain ⟨a, c, rfl, _⟩ := hT.sl
  exact ⟨a, c, c2⟩
theorem BMem.cod {D : Nat → Prop} {w : World} {r : Nat} {nv : Value} {code : List In} {p : List Wk} (h : BMem D w r nv code p) : ∃ cv, w.cell? ⟨r, 1, none⟩ = some cv ∧ CodeAt w cv code := by
  obtain ⟨dr, cv, tv, hb, hC, hT, _⟩ := h
  exact ⟨cv, hb.cell (o := 1) (by omega), hC⟩
theorem BMem.frz {D : Nat → Prop} {w : World} {r : Nat} {nv : Value} {code : List In} {p : List Wk} (h : BMem D w r nv code p) : ∀ o, w.frozen? ⟨r, o, none⟩ = false := by
  obtain ⟨dr, cv, tv, hb, _⟩ := h
  exact hb.frozen
set_option maxRecDepth 100000 in
set_option maxHeartbeats 16000000 in
theorem compileB_any {w : World} {bk cp : Nat} {g : Int} {cl : List Nd} {code : List In} (hN : NPAt w bk cl) (hbl : bk < w.heap.size) (hO : NdsOk cl) (h1 : 1 ≤ cl.length) (hC : CompP cl code) :
    Calls Tryz.prog 69 #[.agg #[.slice (some ⟨bk, 0, none⟩) cl.length cp, .int .i64 ((cl.length - 1 : Nat) : Int), .int .i64 g, .int .i64 0, .int .i64 0]] w fun v w' => ∃ b f, v = .returned (.slice (some ⟨b, 0, none⟩) code.length code.length) ∧ w.heap.size ≤ b ∧ Fr (fun _ => False) w w' ∧ Blk w' b (code.length * 7) f ∧ Holds7 f code := by
  obtain ⟨⟨k0, seg, hk0, hrun, rfl⟩, hokp⟩ := hC
  have F0 := (Fr.refl (fun _ => False) w).alloc (.cells #[.slice (some ⟨bk, 0, none⟩) cl.length cp, .int .i64 ((cl.length - 1 : Nat) : Int), .int .i64 g, .int .i64 0, .int .i64 0] 148)
  have hM0 := BMem.new (w.alloc (.cells #[.slice (some ⟨bk, 0, none⟩) cl.length cp, .int .i64 ((cl.length - 1 : Nat) : Int), .int .i64 g, .int .i64 0, .int .i64 0] 148)) (.slice (some ⟨bk, 0, none⟩) cl.length cp)
  rw [World.size_alloc] at hM0
  have F1 := F0.alloc (.cells #[.slice (some ⟨bk, 0, none⟩) cl.length cp, .slice none 0 0, .slice none 0 0] 178)
  go_enter Tryz.func69, Tryz.ntmps69
  go_wp2_with fail
  refine (pushB_any 0 (cl.length - 1) 0 hM0 (by simp) (fun b hb => by simp only [World.size_alloc] at hb; omega)).mono ?_
  rintro v w1 ⟨rfl, hM1, f1⟩
  rw [List.nil_append] at hM1
  have G1 : Fr (fun b => w.heap.size + 1 ≤ b) w w1 := (F1.mono (fun _ _ h => h.elim)).trans f1 (fun _ _ h => h)
  have hsz := G1.size
  clear hM0 F0 F1
  go_wp2_with fail
  go_loopg [4] 93 (fun q kv wr => ∃ k c T m, kv = .int .i64 (k : Nat) ∧ k + q = 93 ∧ BMem (fun b => w.heap.size + 1 ≤ b) wr (w.heap.size + 1) (.slice (some ⟨bk, 0, none⟩) cl.length cp) c T.reverse ∧ Fr (fun b => w.heap.size + 1 ≤ b) w wr ∧ StOk cl (c, T) ∧ RunC' cl m (c, T) (seg, []) ∧ m ≤ q ∧ c.length ≤ k ∧ T.length ≤ k + 1)
  case atStart =>
    exact ⟨0, [], [⟨0, cl.length - 1, 0⟩], k0, rfl, rfl, hM1, G1, fun x hx => by simp at hx; subst hx; exact .inl ⟨rfl, by simp only; omega⟩, hrun, hk0, by simp, by simp⟩
  case round =>
    obtain ⟨k, c, T, m, rfl, hkg, hM, G, hS, hR, hm, hcl, hTl⟩ := hrel
    have hkg' : k + gk = 93 := hkg
    clear hkg
    have hrl := hM.c0.2.1
    cases T with
    | nil =>
      obtain ⟨ta, tc, c2⟩ := hM.todo
      simp only [List.reverse_nil, List.length_nil] at c2
      have hcs : c = seg := by cases hR; rfl
      subst hcs
      have hlen := hokp.max
      rw [List.length_append, List.length_singleton] at hlen
      by_cases hk : k < 93
      · go_wp2_with fail
        refine (layB_any mIn hM (by omega) (fun b hb => by omega)).mono ?_
        rintro v w2 ⟨rfl, hM2, f2⟩
        obtain ⟨cv, cc, hcc⟩ := hM2.cod
        go_wp2_with fail
        refine (copyProg_any hcc (by rw [List.length_append, List.length_singleton]; omega)).mono ?_
        rintro v w3 ⟨rfl, f3, hs3, fc, hb3, hf3⟩
        go_wp2_with fail
        go_ret
        have G2 := G.trans f2 (fun _ _ h => h)
        exact ⟨w2.heap.size, fc, by rw [List.length_append, List.length_singleton]; rfl, G2.size, (G2.trans f3 (fun _ _ h => h.elim)).mono (fun b hb h => by omega), hb3, hf3⟩
      · go_wp2_with fail
        refine (layB_any mIn hM (by omega) (fun b hb => by omega)).mono ?_
        rintro v w2 ⟨rfl, hM2, f2⟩
        obtain ⟨cv, cc, hcc⟩ := hM2.cod
        go_wp2_with fail
        refine (copyProg_any hcc (by rw [List.length_append, List.length_singleton]; omega)).mono ?_
        rintro v w3 ⟨rfl, f3, hs3, fc, hb3, hf3⟩
        go_wp2_with fail
        go_ret
        have G2 := G.trans f2 (fun _ _ h => h)
        exact ⟨w2.heap.size, fc, by rw [List.length_append, List.length_singleton]; rfl, G2.size, (G2.trans f3 (fun _ _ h => h.elim)).mono (fun b hb h => by omega), hb3, hf3⟩
    | cons x T =>
      simp only [List.reverse_cons] at hM
      obtain ⟨m', rfl, hR'⟩ : ∃ m', m = m' + 1 ∧ RunC' cl m' (stepP cl x c T) (seg, []) := by
        cases hR with
        | step h => exact ⟨_, rfl, h⟩
      obtain ⟨hS2, hl1, hl2⟩ := stepP_ok hO hS
      have hxo := hS x (List.mem_cons_self ..)
      simp only at hxo
      simp only [List.length_cons] at hTl
      obtain ⟨b, cap, c2, hcap, hbl', hrb, hxc, hz, hset⟩ := hM.pop
      simp only [List.length_reverse] at c2 hcap hxc hset
      have x0 := hxc 0 (by omega)
      have x1 := hxc 1 (by omega)
      have x2 := hxc 2 (by omega)
      simp only [wkCell, Nat.add_zero] at x0 x1 x2
      clear hxc
      have hk : k < 93 := by omega
      have hT0 : (0 : Int) < ((T.length + 1 : Nat) : Int) := by omega
      have hM3 := hset (Fr.refl (fun _ => False) wr) (fun _ _ h => h)
      have hM4 := hM3.frame (((Fr.refl (fun _ => False) _).alloc (.cells #[.int .i64 (x.what : Nat), .int .i64 (x.a : Nat), .int .i64 (x.b : Nat)] 181)).drew).drew (fun _ _ h => h)
      go_wp2_with fail
      refine wp_region_text (by kernel_rfl) (by kernel_rfl) ?_
      go_wp2_with fail
      refine ⟨by kernel_rfl, ?_⟩
      go_wp2_with fail
      refine wp_region_text (by kernel_rfl) (by kernel_rfl) ?_
      go_wp2_with fail
      refine ⟨by kernel_rfl, ?_⟩
      go_wp2_with fail
      have G3 := (((G.setC (w.heap.size + 1) 2 (.slice (some ⟨b, 0, none⟩) T.length cap) (fun _ => Nat.le_refl _)).alloc (.cells #[.int .i64 (x.what : Nat), .int .i64 (x.a : Nat), .int .i64 (x.b : Nat)] 181)).drew).drew
      refine (stepB_any hM4 (fun b hb => by have := hM4.c0.2.1; omega) (hN.frame G3 (by omega)) hO x hxo (by omega) (by omega)).mono ?_
      rintro v w5 ⟨rfl, hM5, f5⟩
      go_wp2_with fail
      go_roundg (gk - 1)
      case measure => omega
      case rel => exact ⟨k + 1, _, _, m', by simp, by omega, hM5, G3.trans f5 (fun _ _ h => h), hS2, hR', by omega, by omega, by omega⟩
end Go.Proofs.Qxb6500283aGreat
