/- The model: Split. -/
import Derived.Test.Qxb6500283aGreatHA3
namespace Go.Proofs.Qxb6500283aGreat
open Go Go.RowKit

theorem KcAt.cells {w : World} {v : Value} {cs : List Cp} (h : KcAt w v cs) {i : Nat} (hi : i < cs.length) : ∃ b k, v = .slice (some ⟨b, 0, none⟩) cs.length k ∧ b < w.heap.size ∧ ∀ j, j < 8 → w.cell? ⟨b, i * 8 + j, none⟩ = some (.int .i64 (cs[i] j)) := by
  rcases h with ⟨_, rfl⟩ | ⟨b, k, f, rfl, h1, h2, h3⟩
  · simp at hi
  · exact ⟨b, k, rfl, h2.lt, fun j hj => by rw [h2.cell (by omega)]; exact congrArg some (h3 i hi j hj)⟩
theorem KxAt.bk {w : World} {v : Value} {p : List ByteArray} (h : KxAt w v p) {b : Nat} (hb : isBk v b) : b < w.heap.size := by
  obtain ⟨n, k, rfl⟩ := hb
  rcases h with ⟨h, _⟩ | ⟨b', _, _, e, _, h, _⟩
  · cases h
  · cases e; exact h.lt
set_option maxRecDepth 100000 in
set_option maxHeartbeats 8000000 in
theorem splitM {w : World} {B : Ma} {K : Nat} (h : Mod w B K) (hK : K ≤ 900000000000000000) (p s : ByteArray) :
    Calls Tryz.prog 25 #[.pointer (some ⟨B.mb, 0, none⟩), .string p, .string s] w fun v w' => ∃ er q lv xs, v = .returned (.tuple #[lv, .int .i64 er, .int .i64 q]) ∧ FCut p s er q xs ∧ KxAt w' lv xs ∧ xs.length ≤ 258 ∧ (∀ b, isBk lv b → w.heap.size ≤ b) ∧ Mod w' B (K + 300) ∧ Fr B.mo w w' := by
  by_cases hL : 128 < p.size ∨ 256 < s.size
  · have hsol : Sol p s 0 12 0 none := .long hL
    have hd : (128 < (p.size : Int)) ∨ ((p.size : Int) ≤ 128 ∧ 256 < (s.size : Int)) := by omega
    have hfn := h.le (show K ≤ K + 300 by omega)
    clear hL
    rcases hd with hd | ⟨hd, hd2⟩
    all_goals
      go_enter Tryz.func25, Tryz.ntmps25
      go_wp2_with fail
      refine bodyPost_ret (v := .tuple #[.slice none 0 0, .int .i64 12, .int .i64 0]) (by simp [results, Tryz.results25, go_sem]) rfl ?_
      exact ⟨12, 0, .slice none 0 0, [], rfl, ⟨[], .inl ⟨by decide, rfl, _, hsol⟩, .inl ⟨by decide, rfl⟩⟩, .inl ⟨rfl, rfl⟩, by simp, fun b hb => absurd hb (isBk_no b), hfn, Fr.refl _ _⟩
  · have hp1 : (p.size : Int) ≤ 128 := by omega
    have hs1 : (s.size : Int) ≤ 256 := by omega
    have hss : s.size ≤ 256 := by omega
    clear hL
    go_enter Tryz.func25, Tryz.ntmps25
    go_wp2_with fail
    refine (findAllM h hK p s).mono ?_
    rintro v w1 ⟨er, q, lv, cs, rfl, hFA, hA1, hlen, own1, md1, F1⟩
    have hz1 := F1.size
    have HFA : Hid _ := hFA
    clear hFA own1
    by_cases he : er = 0
    · subst he
      obtain ⟨rfl, hAll⟩ : q = 0 ∧ All p s 0 cs := by
        rcases HFA.out with ⟨h1, _⟩ | ⟨_, h2, h3⟩
        · exact absurd rfl h1
        · exact ⟨h2, h3⟩
      have hAs : Asc s.size cs 0 := (hAll.asc.1).asc 0 (Nat.le_refl _) (Nat.zero_le _)
      have HAs : Hid _ := hAs
      have HAll : Hid _ := hAll
      have hlb : (cs.length : Int) ≤ 257 := by omega
      clear hAs hAll
      obtain ⟨va, vc, hvv, _⟩ := hA1.sl
      subst hvv
      go_wp2_with fail
      go_loopg [12, 13, 14] cs.length (fun g ov lv iv wr => ∃ (i last : Nat) (l : List ByteArray), lv = .int .i64 (last : Nat) ∧ iv = .int .i64 i ∧ i + g = cs.length ∧ KxAt wr ov l ∧ (∀ b, isBk ov b → w1.heap.size ≤ b) ∧ l.length = i ∧ l ++ cutsFrom s (cs.drop i) last = cutsFrom s cs 0 ∧ Asc s.size (cs.drop i) last ∧ Fr (fun _ => False) w1 wr)
      case atStart => exact ⟨0, 0, [], rfl, rfl, by omega, .inl ⟨rfl, rfl⟩, fun b hb => absurd hb (isBk_no b), rfl, by simp, by simpa using HAs.out, Fr.refl _ _⟩
      case round =>
        obtain ⟨i, last, l, rfl, rfl, hg, hKx, own, hli, heq, hasc, hfr⟩ := hrel
        have hg' : i + gk = cs.length := hg
        have Heq : Hid _ := heq
        have Hown : Hid _ := own
        clear hg heq own
        have ib : (i : Int) ≤ 257 := by omega
        have hAr := hA1.frame hfr (fun _ _ _ _ h => h)
        obtain ⟨oa, oc, hov, _⟩ := hKx.sl
        subst hov
        have hbk : ∀ b, isBk (.slice oa l.length oc) b → b < wr.heap.size := fun b hb => hKx.bk hb
        have Hbk : Hid _ := hbk
        clear hbk
        by_cases hlt : i < cs.length
        · have hI : decide ((i : Int) < (cs.length : Nat)) = true := decide_eq_true (by omega)
          obtain ⟨cb, ck, hce, hcl, hcc⟩ := hAr.cells hlt
          have s0 := hcc 0 (by omega)
          have s1 := hcc 1 (by omega)
          simp only [Nat.add_zero] at s0
          injection hce with hva _ hvc
          subst hva hvc
          have hd : cs.drop i = cs[i] :: cs.drop (i + 1) := List.drop_eq_getElem_cons hlt
          rw [hd] at hasc
          obtain ⟨y1, y2, y3, _, y5⟩ := hasc
          have heq2 := Heq.out
          rw [hd] at heq2
          simp only [cutsFrom] at heq2
          have hl1 : ((cs[i] 1).toNat : Int) = cs[i] 1 := by omega
          have y0 : 0 ≤ cs[i] 0 := by omega
          have y4 : cs[i] 0 ≤ (s.size : Nat) := by omega
          have kA := (Fr.refl (fun _ => False) wr).alloc (.cells #[.string (s.extract last (cs[i] 0).toNat)] 9)
          have hx : KxP (wr.alloc (.cells #[.string (s.extract last (cs[i] 0).toNat)] 9)) wr.heap.size [s.extract last (cs[i] 0).toNat] := KxP.of1 (by simp [go_sem])
          have hK3 := hKx.frame kA (fun _ _ _ _ h => h)
          have F3 := hfr.trans kA (fun _ _ h => h)
          have hA3 := hAr.frame kA (fun _ _ _ _ h => h)
          have Heq2 : Hid _ := heq2
          have Y5 : Hid _ := y5
          have Hl1 : Hid _ := hl1
          have Hcc : Hid _ := hcc
          clear heq2 y5 hl1 hd kA hKx hcc hfr hAr
          go_wp2_with (
            at_builtin
            refine wpList_appendKx (by rfl) _ _ (by rfl) (.slice oa l.length oc) l (s.extract last (cs[i] 0).toNat) wr.heap.size 1 (by rfl) (by rfl) hK3 hx (by omega) ?_
            intro v' w5 hc5 hb5 f5
            have hA5 := hA3.frame f5 (fun b n c e ⟨n', c', e'⟩ => by have h1 := Hown.out b ⟨_, _, e'⟩; have h2 := hA1.bk ⟨_, _, e⟩; omega)
            obtain ⟨cb', ck', hce', hcl', hcc'⟩ := hA5.cells hlt
            cases hce'
            have z1 := hcc' 1 (by omega))
          have own5 : ∀ b, isBk v' b → w1.heap.size ≤ b := fun b ⟨n', c', e⟩ => by
            rcases hb5 b n' c' e with h1 | ⟨n2, c2, h1⟩
            · have := F3.size; omega
            · exact Hown.out b ⟨_, _, h1⟩
          have F5 := F3.trans f5 (fun b hl ⟨n', c', e⟩ => by have := Hown.out b ⟨_, _, e⟩; omega)
          go_roundg (gk - 1)
          case measure => omega
          case rel => exact ⟨i + 1, (cs[i] 1).toNat, l ++ [s.extract last (cs[i] 0).toNat], by rw [Hl1.out], by simp, by omega, hc5, own5, by rw [List.length_append, hli]; rfl, by rw [← Heq2.out, List.append_assoc, List.singleton_append], Y5.out, F5⟩
        · have hI : decide ((i : Int) < (cs.length : Nat)) = false := decide_eq_false (by omega)
          have hii : i = cs.length := by omega
          subst hii
          rw [List.drop_length] at hasc
          have hls : last ≤ s.size := hasc
          have heq2 := Heq.out
          rw [List.drop_length] at heq2
          simp only [cutsFrom] at heq2
          have lsb : (last : Int) ≤ (s.size : Nat) := by omega
          have kA := (Fr.refl (fun _ => False) wr).alloc (.cells #[.string (s.extract last s.size)] 9)
          have hx : KxP (wr.alloc (.cells #[.string (s.extract last s.size)] 9)) wr.heap.size [s.extract last s.size] := KxP.of1 (by simp [go_sem])
          have hK3 := hKx.frame kA (fun _ _ _ _ h => h)
          have F3 := hfr.trans kA (fun _ _ h => h)
          have Heq2 : Hid _ := heq2
          clear heq2 kA hKx hfr hAr hasc
          go_wp2_with (
            at_builtin
            refine wpList_appendKx (by rfl) _ _ (by rfl) (.slice oa l.length oc) l (s.extract last s.size) wr.heap.size 1 (by rfl) (by rfl) hK3 hx (by omega) ?_
            intro v' w5 hc5 hb5 f5)
          have own5 : ∀ b, isBk v' b → w1.heap.size ≤ b := fun b ⟨n', c', e⟩ => by
            rcases hb5 b n' c' e with h1 | ⟨n2, c2, h1⟩
            · have := F3.size; omega
            · exact Hown.out b ⟨_, _, h1⟩
          have F5 := F3.trans f5 (fun b hl ⟨n', c', e⟩ => by have := Hown.out b ⟨_, _, e⟩; omega)
          have md5 := md1.same F5
          have F6 := F1.trans F5 (fun _ _ h => h.elim)
          rw [Heq2.out] at hc5
          have hcl := cuts_len s cs 0
          go_wp2_with fail
          refine bodyPost_ret (v := .tuple #[v', .int .i64 0, .int .i64 0]) (by simp [results, Tryz.results25, go_sem]) rfl ?_
          exact ⟨0, 0, v', cutsFrom s cs 0, rfl, ⟨cs, .inr ⟨rfl, rfl, HAll.out⟩, .inr ⟨rfl, rfl⟩⟩, hc5, by omega, fun b hb => by have := own5 b hb; omega, md5, F6⟩
    · have t0 : (er != 0) = true := by simpa using he
      have HE : Hid _ := he
      clear he
      go_wp2_with fail
      refine bodyPost_ret (v := .tuple #[.slice none 0 0, .int .i64 er, .int .i64 q]) (by simp [results, Tryz.results25, go_sem]) rfl ?_
      have hc0 : cs = [] := by
        rcases HFA.out with ⟨_, h2, _⟩ | ⟨h2, _⟩
        · exact h2
        · exact absurd h2 HE.out
      subst hc0
      exact ⟨er, q, .slice none 0 0, [], rfl, ⟨[], HFA.out, .inl ⟨HE.out, rfl⟩⟩, .inl ⟨rfl, rfl⟩, by simp, fun b hb => absurd hb (isBk_no b), md1, F1⟩
end Go.Proofs.Qxb6500283aGreat
