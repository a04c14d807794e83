/- The model: Replace. -/
import Derived.Test.Qxb6500283aGreatHA4
namespace Go.Proofs.Qxb6500283aGreat
open Go Go.RowKit

theorem Out.neg {t : ByteArray} {i : Nat} {r : Int} (h : Out t i r) (hr : r < 0) : r = -1 := by
  induction h with
  | ok => rfl
  | bad => omega
  | lit _ _ _ ih => exact ih hr
  | esc _ _ _ _ ih => exact ih hr
theorem Suf.len {t s : ByteArray} {c : Nat → Int} (hs : s.size ≤ 256) (hc : CapOk s.size c) {i : Nat} {l : List UInt8} (h : Suf t s c i l) : l.length + i * 256 ≤ t.size * 256 := by
  induction h with
  | ok => simp
  | lit h1 h2 h3 ih => simp only [List.length_cons]; omega
  | dol h1 h2 h3 h4 ih => simp only [List.length_cons]; omega
  | @grp i l h1 h2 h3 h4 h5 ih =>
    have hb : (capBy s c (t[i + 1].toNat - 48)).length ≤ 256 := by
      unfold capBy
      split
      · simp
      · rw [bytes_len]
        have := hc (t[i + 1].toNat - 48) (by omega)
        omega
    rw [List.length_append]
    omega
set_option maxRecDepth 100000 in
set_option maxHeartbeats 8000000 in
theorem replaceM {w : World} {B : Ma} {K : Nat} (h : Mod w B K) (hK : K ≤ 900000000000000000) (p s t : ByteArray) :
    Calls Tryz.prog 26 #[.pointer (some ⟨B.mb, 0, none⟩), .string p, .string s, .string t] w fun v w' => ∃ er q x, v = .returned (.tuple #[.string x, .int .i64 er, .int .i64 q]) ∧ FRep p s t er q x ∧ Mod w' B (K + 300) ∧ Fr B.mo w w' := by
  by_cases hL : 128 < p.size ∨ 256 < s.size ∨ 32 < t.size
  · have hsol : FRep p s t 12 0 ⟨#[]⟩ := .long hL
    have hd : (128 < (p.size : Int)) ∨ ((p.size : Int) ≤ 128 ∧ 256 < (s.size : Int)) ∨ ((p.size : Int) ≤ 128 ∧ (s.size : Int) ≤ 256 ∧ 32 < (t.size : Int)) := by omega
    have hfn := h.le (show K ≤ K + 300 by omega)
    clear hL
    rcases hd with hd | ⟨hd, hd2⟩ | ⟨hd, hd2, hd3⟩
    all_goals
      go_enter Tryz.func26, Tryz.ntmps26
      go_wp2_with fail
      refine bodyPost_ret (v := .tuple #[.string ⟨#[]⟩, .int .i64 12, .int .i64 0]) (by simp [results, Tryz.results26, go_sem]) rfl ?_
      exact ⟨12, 0, _, rfl, hsol, hfn, Fr.refl _ _⟩
  · have hp1 : (p.size : Int) ≤ 128 := by omega
    have hs1 : (s.size : Int) ≤ 256 := by omega
    have ht1 : (t.size : Int) ≤ 32 := by omega
    have hps : p.size ≤ 128 := by omega
    have hss : s.size ≤ 256 := by omega
    have hts : t.size ≤ 32 := by omega
    clear hL
    go_enter Tryz.func26, Tryz.ntmps26
    go_wp2_with fail
    refine (findAllM h hK p s).mono ?_
    rintro v w1 ⟨er, q, lv, cs, rfl, hFA, hA1, hlen, own1, md1, F1⟩
    have HFA : Hid _ := hFA
    clear hFA own1
    by_cases he : er = 0
    · subst he
      obtain ⟨rfl, hAll⟩ : q = 0 ∧ All p s 0 cs := by
        rcases HFA.out with ⟨h1, _⟩ | ⟨_, h2, h3⟩
        · exact absurd rfl h1
        · exact ⟨h2, h3⟩
      have hAs : Asc s.size cs 0 := (hAll.asc.1).asc 0 (Nat.le_refl _) (Nat.zero_le _)
      have HAs : Hid _ := hAs
      have HAll : Hid _ := hAll
      have hlb : (cs.length : Int) ≤ 257 := by omega
      clear hAs hAll
      go_wp2_with fail
      refine (badAt_any t hts w1).mono ?_
      rintro v w2 ⟨⟨r, rfl, hO⟩, rfl⟩
      have HO : Hid _ := hO
      clear hO
      by_cases hr : 0 ≤ r
      · obtain ⟨q1, o1, hS1⟩ := HAll.out.sol
        have hA : FRep p s t 11 r ⟨#[]⟩ := .tmp hps hss hts hS1 HO.out hr
        have HA : Hid _ := hA
        clear hA hS1
        go_wp2_with fail
        refine bodyPost_ret (v := .tuple #[.string ⟨#[]⟩, .int .i64 11, .int .i64 r]) (by simp [results, Tryz.results26, go_sem]) rfl ?_
        exact ⟨11, r, _, rfl, HA.out, md1, F1⟩
      · obtain ⟨va, vc, hvv, _⟩ := hA1.sl
        subst hvv
        have hr1 : r = -1 := HO.out.neg (by omega)
        subst hr1
        clear hr
        go_wp2_with fail
        go_loopg [15, 16, 17] cs.length (fun g ov lv iv wr => ∃ (i last : Nat) (out : ByteArray), ov = .string out ∧ lv = .int .i64 (last : Nat) ∧ iv = .int .i64 i ∧ i + g = cs.length ∧ out.size ≤ i * 8448 ∧ (∀ l, RepS t s (cs.drop i) last l → RepS t s cs 0 (out.data.toList ++ l)) ∧ Asc s.size (cs.drop i) last ∧ Fr (fun _ => False) w2 wr)
        case atStart => exact ⟨0, 0, ⟨#[]⟩, rfl, rfl, rfl, by omega, by show (0 : Nat) ≤ _; omega, fun l h => by simpa using h, by simpa using HAs.out, Fr.refl _ _⟩
        case round =>
          obtain ⟨i, last, out, rfl, rfl, rfl, hg, hosz, hrep, hasc, hfr⟩ := hrel
          have hg' : i + gk = cs.length := hg
          have Hrep : Hid _ := hrep
          clear hg hrep
          have ib : (i : Int) ≤ 257 := by omega
          have hob : (out.size : Int) ≤ 2200000 := by omega
          have hAr := hA1.frame hfr (fun _ _ _ _ h => h)
          by_cases hlt : i < cs.length
          · have hI : decide ((i : Int) < (cs.length : Nat)) = true := decide_eq_true (by omega)
            obtain ⟨cb, ck, hce, hcl, hcc⟩ := hAr.cells hlt
            injection hce with hva _ hvc
            subst hva hvc
            have s0 := hcc 0 (by omega)
            have s1 := hcc 1 (by omega)
            have s2 := hcc 2 (by omega)
            have s3 := hcc 3 (by omega)
            have s4 := hcc 4 (by omega)
            have s5 := hcc 5 (by omega)
            have s6 := hcc 6 (by omega)
            have s7 := hcc 7 (by omega)
            simp only [Nat.add_zero] at s0
            have hd : cs.drop i = cs[i] :: cs.drop (i + 1) := List.drop_eq_getElem_cons hlt
            rw [hd] at hasc
            obtain ⟨y1, y2, y3, ycap, y5⟩ := hasc
            have hrep2 := Hrep.out
            rw [hd] at hrep2
            obtain ⟨c, hc⟩ : ∃ c, c = cs[i] := ⟨_, rfl⟩
            rw [← hc] at y1 y2 y3 ycap y5 hrep2 s0 s1 s2 s3 s4 s5 s6 s7
            have hl1 : ((c 1).toNat : Int) = c 1 := by omega
            have hl0 : ((c 0).toNat : Int) = c 0 := by omega
            have y0 : 0 ≤ c 0 := by omega
            have y4 : c 0 ≤ (s.size : Nat) := by omega
            have hcall := expand_any t s c ycap hts hss HO.out wr
            unfold cpV at hcall
            have Hcall : Hid _ := hcall
            have Hrep2 : Hid _ := hrep2
            have Y5 : Hid _ := y5
            have Hl1 : Hid _ := hl1
            have Hd : Hid _ := hd
            have Hcc : Hid _ := hcc
            have Hc : Hid _ := hc
            clear hcall hrep2 y5 hl1 hd hcc hc
            go_wp2_with fail
            refine Calls.mono Hcall.out ?_
            rintro v w5 ⟨⟨x, rfl, hX⟩, f5⟩
            have hxl := hX.len hss ycap
            have hxs : x.size ≤ 8192 := by
              have : x.data.toList.length = x.size := Array.length_toList
              omega
            have hxb : (x.size : Int) ≤ 8192 := by omega
            have HX : Hid _ := hX
            have s0' := (f5.cell (p := ⟨cb, i * 8, none⟩) hcl (fun h => h)).trans s0
            have s1' := (f5.cell (p := ⟨cb, i * 8 + 1, none⟩) hcl (fun h => h)).trans s1
            have hcl5 : cb < w5.heap.size := by have := f5.size; omega
            have F5 := hfr.trans f5 (fun _ _ h => h)
            have hes : (s.extract last (c 0).toNat).size ≤ 256 := by rw [ByteArray.size_extract]; omega
            have hesb : ((s.extract last (c 0).toNat).size : Int) ≤ 256 := by omega
            have hse : (out ++ s.extract last (c 0).toNat).size = out.size + (s.extract last (c 0).toNat).size := ByteArray.size_append
            have hseb : ((out ++ s.extract last (c 0).toNat).size : Int) ≤ 2200256 := by omega
            have hnew : ∀ l, RepS t s (cs.drop (i + 1)) (c 1).toNat l → RepS t s cs 0 ((out ++ s.extract last (c 0).toNat ++ x).data.toList ++ l) := fun l hl => by
              have := Hrep2.out _ (.cons HX.out hl)
              rw [ByteArray.data_append, Array.toList_append, app_bytes out s last (c 0).toNat (by omega) (by omega)]
              simpa only [List.append_assoc] using this
            have Hnew : Hid _ := hnew
            have hsz2 : (out ++ s.extract last (c 0).toNat ++ x).size ≤ (i + 1) * 8448 := by rw [ByteArray.size_append]; omega
            have Hsz2 : Hid _ := hsz2
            clear hnew hsz2 hX hxl s0 s1 s2 s3 s4 s5 s6 s7 hfr f5 hse
            go_wp2_with fail
            go_roundg (gk - 1)
            case measure => omega
            case rel => exact ⟨i + 1, (c 1).toNat, _, rfl, by rw [Hl1.out], by simp, by omega, Hsz2.out, Hnew.out, Y5.out, F5⟩
          · have hI : decide ((i : Int) < (cs.length : Nat)) = false := decide_eq_false (by omega)
            have hii : i = cs.length := by omega
            subst hii
            rw [List.drop_length] at hasc
            have hls : last ≤ s.size := hasc
            have hrep2 := Hrep.out
            rw [List.drop_length] at hrep2
            have lsb : (last : Int) ≤ (s.size : Nat) := by omega
            have hes : (s.extract last s.size).size ≤ 256 := by rw [ByteArray.size_extract]; omega
            have hesb : ((s.extract last s.size).size : Int) ≤ 256 := by omega
            have hfin : RepS t s cs 0 (out ++ s.extract last s.size).data.toList := by
              rw [app_bytes out s last s.size hls (Nat.le_refl _)]
              exact hrep2 _ .nil
            have hA : FRep p s t 0 0 (out ++ s.extract last s.size) := .ok hps hss hts HAll.out HO.out hfin
            have HA : Hid _ := hA
            have md5 := md1.same hfr
            have F6 := F1.trans hfr (fun _ _ h => h.elim)
            clear hrep2 hfin hA hasc
            go_wp2_with fail
            refine bodyPost_ret (v := .tuple #[.string (out ++ s.extract last s.size), .int .i64 0, .int .i64 0]) (by simp [results, Tryz.results26, go_sem]) rfl ?_
            exact ⟨0, 0, _, rfl, HA.out, md5, F6⟩
    · have t0 : (er != 0) = true := by simpa using he
      have hA : FRep p s t er q ⟨#[]⟩ := by
        rcases HFA.out with ⟨h1, _, o, h2⟩ | ⟨h2, _⟩
        · exact .pat hps hss hts h1 h2
        · exact absurd h2 he
      have HA : Hid _ := hA
      clear he hA
      go_wp2_with fail
      refine bodyPost_ret (v := .tuple #[.string ⟨#[]⟩, .int .i64 er, .int .i64 q]) (by simp [results, Tryz.results26, go_sem]) rfl ?_
      exact ⟨er, q, _, rfl, HA.out, md1, F1⟩
end Go.Proofs.Qxb6500283aGreat
