/- The real heap: trace, Live. -/
import Derived.Test.Qxb6500281aGreatKW8
namespace Go.Proofs.Qxb6500281aGreat
open Go Go.RowKit

/-- A part of the order: each once, all in the row. -/
structure Part (os l : List Int) : Prop where
  nd : l.Nodup
  sub : ∀ x ∈ l, x ∈ os
theorem Part.note {os l : List Int} (h : Part os l) {x : Int} (hx : x = -1 ∨ x ∈ os) : Part os (noteL l x) := ⟨noteL_nodup h.nd x, fun y hy => by
  rcases noteL_mem.1 hy with hy | ⟨rfl, h0⟩
  · exact h.sub y hy
  · rcases hx with hx | hx
    · omega
    · exact hx⟩
theorem HInv.os48 {S : HS} {os : List Int} (hI : HInv S os) : os.length ≤ 48 := by
  have h1 := hI.row.sum
  have h2 := wdL_ge S.mem os
  have h3 := hI.le
  omega
theorem Part.len {S : HS} {os l : List Int} (hI : HInv S os) (h : Part os l) : l.length ≤ 48 := Nat.le_trans (nodup_len h.nd h.sub) hI.os48
set_option maxRecDepth 100000 in
set_option maxHeartbeats 8000000 in
theorem traceF {w : World} {h : Nat} {S : HS} {os : List Int} (H : HM w h S) (hI : HInv S os) :
    Calls Tryz.prog 48 #[.pointer (some ⟨h, 0, none⟩)] w fun e w' => e = .returned (.pointer (some ⟨w.heap.size, 0, none⟩)) ∧ LM w' w.heap.size S.gh.ord ∧ HM w' h S ∧ Fr (fun _ => False) w w' := by
  have hlt0 := H.lt
  have htop := hI.top
  have L0 := LM.new w
  have k0 := (Fr.refl (fun _ => False) w).alloc (.cells #[.int .i64 0, .int .i64 0, .int .i64 0, .int .i64 0, .int .i64 0, .int .i64 0, .int .i64 0, .int .i64 0, .int .i64 0, .int .i64 0, .int .i64 0, .int .i64 0, .int .i64 0, .int .i64 0, .int .i64 0, .int .i64 0, .int .i64 0, .int .i64 0, .int .i64 0, .int .i64 0, .int .i64 0, .int .i64 0, .int .i64 0, .int .i64 0, .int .i64 0, .int .i64 0, .int .i64 0, .int .i64 0, .int .i64 0, .int .i64 0, .int .i64 0, .int .i64 0, .int .i64 0, .int .i64 0, .int .i64 0, .int .i64 0, .int .i64 0, .int .i64 0, .int .i64 0, .int .i64 0, .int .i64 0, .int .i64 0, .int .i64 0, .int .i64 0, .int .i64 0, .int .i64 0, .int .i64 0, .int .i64 0, .int .i64 0] 90)
  have H0 := H.frame k0 (fun h => h)
  have Hk0 : Hid (_ ∧ _ ∧ _) := ⟨L0, H0, k0⟩
  clear L0 k0 H0 H
  obtain ⟨b, hb⟩ : ∃ b, w.heap.size = b := ⟨_, rfl⟩
  rw [hb] at Hk0 ⊢
  have hhb : h < b := by omega
  go_enter Tryz.func48, Tryz.ntmps48
  go_wp2_with fail
  have Hb : Hid _ := hb
  clear hb
  go_loopg [4] S.top (fun g kv wr => ∃ i : Nat, kv = .int .i64 i ∧ i + g = S.top ∧ LM wr b ((rts S i).foldl noteL []) ∧ Part os ((rts S i).foldl noteL []) ∧ HM wr h S ∧ Fr (fun _ => False) w wr)
  case atStart => exact ⟨0, rfl, by omega, Hk0.out.1, ⟨by simp [rts], by simp [rts]⟩, Hk0.out.2.1, Hk0.out.2.2⟩
  case round =>
    clear Hk0
    obtain ⟨i, rfl, hig, L, hP, H, hfr⟩ := hrel
    have hig' : i + gk = S.top := hig
    clear hig
    have hlt := H.lt
    have ct := H.top
    by_cases hi : i < S.top
    · have hi' : (i : Int) < S.top := by omega
      have cr := H.root (i := i) (by omega)
      have hP2 := hP.note (hI.rts i hi)
      have N := noteF L (S.roots i) (hP2.len hI)
      have e1 := rts_succ S i
      have He : Hid _ := e1
      clear e1
      go_wp2_with fail
      refine N.mono ?_
      rintro e w2 ⟨rfl, L2, f2⟩
      have H2 := H.frame f2 (by unfold OnlyH; omega)
      have F2 := hfr.trans f2 (fun c hc e => by unfold OnlyH at e; have := Hb.out; omega)
      clear N L H hfr f2 ct cr hlt
      go_wp2_with fail
      go_roundg (gk - 1)
      case measure => omega
      case rel => exact ⟨i + 1, by simp, by omega, by rw [He.out]; exact L2, by rw [He.out]; exact hP2, H2, F2⟩
    · have hin : i = S.top := by omega
      subst hin
      clear hi hig'
      obtain ⟨l0, hl0⟩ : ∃ l0, l0 = (rts S S.top).foldl noteL [] := ⟨_, rfl⟩
      rw [← hl0] at L hP
      have hord : scanF (rfO S.mem) 100 0 l0 = S.gh.ord := by rw [hl0]; rfl
      clear hl0
      go_wp2_with fail
      go_loopg [5] 100 (fun g kv wr => ∃ k l, kv = .int .i64 (k : Nat) ∧ k + g = 100 ∧ k ≤ l.length ∧ Part os l ∧ LM wr b l ∧ HM wr h S ∧ scanF (rfO S.mem) (100 - k) k l = S.gh.ord ∧ Fr (fun _ => False) w wr)
      case atStart => exact ⟨0, l0, rfl, by omega, by omega, hP, L, H, hord, hfr⟩
      case round =>
        clear L H hP hord ct hfr hlt
        obtain ⟨k, l, rfl, hkg, hkl, hP, L, H, hord, hfr⟩ := hrel
        have hkg' : k + gk = 100 := hkg
        clear hkg
        obtain ⟨g0, hg0⟩ : ∃ g0, gk = g0 := ⟨_, rfl⟩
        have hlt := H.lt
        have hlb := L.lt
        have cn := L.n
        have hl48 := hP.len hI
        by_cases hk : k < l.length
        · have hk' : (k : Int) < l.length := by omega
          have ck := L.at hk
          obtain ⟨a, ha, a1, a2, a3, a4, a5⟩ := hI.row.hd hI.le96.1 (hP.sub _ (List.getElem_mem hk))
          have hao : (a : Int) ∈ os := by rw [← ha]; exact hP.sub _ (List.getElem_mem hk)
          have hstep : scanF (rfO S.mem) (100 - (k + 1)) (k + 1) ((rfO S.mem a).foldl noteL l) = S.gh.ord := by
            rw [← hord, show 100 - k = (100 - (k + 1)) + 1 by omega, scanF_step hk, ha]
          rw [ha] at ck
          have ca := H.mem a1
          have hRf := fun w => refs_any (S.mem a) a4 a5 w
          have e3 : (S.mem a).toNat / 49 = nrO S.mem a := rfl
          rw [e3] at hRf
          have hwd : wdO S.mem a = 1 + nrO S.mem a + niO S.mem a := rfl
          have h96 := hI.le96.1
          have hnr : a + 1 + nrO S.mem a ≤ 96 := by omega
          have hk48 : k < 48 := by omega
          clear e3 hord hwd ha a2 a3
          go_wp2_with fail
          refine (hRf _).mono ?_
          rintro e w2 ⟨rfl, rfl⟩
          go_wp2_with fail
          go_loopg [8] (nrO S.mem a) (fun g kv wr => ∃ j : Nat, kv = .int .i64 ((j + 1 : Nat) : Int) ∧ j + g = nrO S.mem a ∧ LM wr b (((rfO S.mem a).take j).foldl noteL l) ∧ Part os (((rfO S.mem a).take j).foldl noteL l) ∧ HM wr h S ∧ Fr (fun _ => False) w wr)
          case atStart => exact ⟨0, rfl, by omega, L, hP, H, hfr⟩
          case round =>
            clear L H hP hfr ck ca cn hlt hlb
            obtain ⟨j, rfl, hjg, L, hP, H, hfr⟩ := hrel
            have hjg' : j + gk = nrO S.mem a := hjg
            clear hjg
            have hlt := H.lt
            by_cases hj : j < nrO S.mem a
            · have hj' : ((j + 1 : Nat) : Int) ≤ nrO S.mem a := by omega
              have cm := H.mem (o := a + (j + 1)) (by omega)
              have hxo : S.mem (a + (j + 1)) = -1 ∨ S.mem (a + (j + 1)) ∈ os := hI.cl a hao _ (List.mem_map.2 ⟨j, List.mem_range.2 (by simpa using hj), by simp only [Int.toNat_natCast]; congr 1; omega⟩)
              have hP2 := hP.note hxo
              have N := noteF L (S.mem (a + (j + 1))) (hP2.len hI)
              have He : Hid (((rfO S.mem a).take (j + 1)).foldl noteL l = noteL (((rfO S.mem a).take j).foldl noteL l) (S.mem (a + (j + 1)))) := by
                show _ = _
                rw [rf_take (by simpa using hj)]
                simp only [Int.toNat_natCast]
                congr 2
                omega
              have hs96 : a + (j + 1) < 96 := by omega
              go_wp2_with fail
              refine N.mono ?_
              rintro e w3 ⟨rfl, L3, f3⟩
              have H3 := H.frame f3 (by unfold OnlyH; omega)
              have F3 := hfr.trans f3 (fun c hc e => by unfold OnlyH at e; have := Hb.out; omega)
              clear N L H hfr f3 cm hlt
              go_wp2_with fail
              go_roundg (gk - 1)
              case measure => omega
              case rel => exact ⟨j + 1, by simp, by omega, by rw [He.out]; exact L3, by rw [He.out]; exact hP2, H3, F3⟩
            · have hjn : j = nrO S.mem a := by omega
              have hfull : ((rfO S.mem a).take j).foldl noteL l = (rfO S.mem a).foldl noteL l := by
                rw [List.take_of_length_le (by rw [rfO_len]; simp only [Int.toNat_natCast]; omega)]
              rw [hfull] at L hP
              have hj2 : ¬ (((j + 1 : Nat) : Int) ≤ nrO S.mem a) := by omega
              have hkl' : k + 1 ≤ ((rfO S.mem a).foldl noteL l).length := Nat.le_trans hk (notes_sub _ l).length_le
              clear hfull hjn hjg'
              go_wp2_with fail
              go_roundg (g0 - 1)
              case measure => omega
              case rel => exact ⟨k + 1, _, by simp, by omega, hkl', hP, L, H, hstep, hfr⟩
        · have hkn : k = l.length := by omega
          subst hkn
          rw [scanF_end (Nat.le_refl _)] at hord
          subst hord
          go_wp2_with fail
          go_ret
          exact ⟨rfl, L, H, hfr⟩
end Go.Proofs.Qxb6500281aGreat
