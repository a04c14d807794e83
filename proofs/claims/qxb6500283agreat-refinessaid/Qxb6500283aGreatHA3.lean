/- The model: New, Find, FindAll. -/
import Derived.Test.Qxb6500283aGreatHA2
import Derived.Test.Qxb6500283aGreatE7
namespace Go.Proofs.Qxb6500283aGreat
open Go Go.RowKit

/-- Where the model lies. -/
structure Ma where
  mb : Nat
  m : Nat
  sx : Nat
  mc : Nat
  sp : Nat
def Ma.mo (B : Ma) (c : Nat) : Prop := c = B.mb ∨ MO B.m B.sx B.mc B.sp c
structure Mod (w : World) (B : Ma) (K : Nat) : Prop where
  me : ME w B.m B.sx B.mc B.sp K K
  bx : Blk w B.mb 1 (fun _ => .pointer (some ⟨B.m, 0, none⟩))
  ap : B.m < B.mb
section
variable {w w' : World} {B : Ma} {K : Nat}
theorem Mod.lt (h : Mod w B K) {c : Nat} (hc : B.mo c) : c < w.heap.size := by
  rcases hc with rfl | hc
  · exact h.bx.lt
  · exact h.me.lt hc
theorem Mod.frame {S : Nat → Prop} (h : Mod w B K) (k : Fr S w w') (hS : ∀ c, B.mo c → ¬ S c) : Mod w' B K :=
  ⟨h.me.frame k (fun c hc => hS c (.inr hc)), h.bx.frame k (hS _ (.inl rfl)), h.ap⟩
theorem Mod.same (h : Mod w B K) (k : Fr (fun _ => False) w w') : Mod w' B K := h.frame k (fun _ _ h => h)
theorem Mod.le {K' : Nat} (h : Mod w B K) (hk : K ≤ K') : Mod w B K' := ⟨h.me.le hk hk, h.bx, h.ap⟩
theorem Mod.nmb (h : Mod w B K) : ¬ MO B.m B.sx B.mc B.sp B.mb := fun hc => by
  have h1 := h.me.ap
  have h2 := h.ap
  unfold MO at hc
  omega
theorem Mod.step (h : Mod w B K) (k : Fr (MO B.m B.sx B.mc B.sp) w w') {K' : Nat} (he : ME w' B.m B.sx B.mc B.sp K' K') : Mod w' B K' := ⟨he, h.bx.frame k h.nmb, h.ap⟩
end
set_option maxHeartbeats 1000000 in
theorem newMF (w : World) : Calls Tryz.prog 9 #[] w fun v w' => ∃ B : Ma, v = .returned (.pointer (some ⟨B.mb, 0, none⟩)) ∧ Mod w' B 0 ∧ (∀ c, B.mo c → w.heap.size ≤ c) ∧ Fr (fun _ => False) w w' := by
  go_enter Tryz.func9, Tryz.ntmps9
  go_wp2_with fail
  refine (newME w).mono ?_
  rintro v w1 ⟨m, mc, sp, rfl, hM, f1⟩
  have k := (Fr.refl (fun _ => False) w1).alloc (.cells #[.pointer (some ⟨m, 0, none⟩)] 52)
  have hb := Blk.new w1 #[.pointer (some ⟨m, 0, none⟩)] 52 (fun _ => .pointer (some ⟨m, 0, none⟩)) (fun o ho => by
    have ho : o < 1 := by simpa using ho
    obtain rfl : o = 0 := by omega
    rfl)
  have hap := hM.ap
  go_wp2_with fail
  go_ret
  refine ⟨⟨w1.heap.size, m, w.heap.size, mc, sp⟩, rfl, ⟨hM.frame k (fun _ _ h => h), hb, hap.2.2.2⟩, fun c hc => ?_, f1.trans k (fun _ _ h => h)⟩
  rcases hc with rfl | hc
  · have := f1.size; show w.heap.size ≤ w1.heap.size; omega
  · have hc : MO m w.heap.size mc sp c := hc
    unfold MO at hc
    omega
set_option maxRecDepth 100000 in
set_option maxHeartbeats 8000000 in
theorem findM {w : World} {B : Ma} {K : Nat} (h : Mod w B K) (hK : K ≤ 900000000000000000) (p s : ByteArray) :
    Calls Tryz.prog 23 #[.pointer (some ⟨B.mb, 0, none⟩), .string p, .string s] w fun v w' => (∃ er q o, v = .returned (foundV er q (okOf o) (cpOf o)) ∧ Sol p s 0 er q o) ∧ Mod w' B (K + 1) ∧ Fr B.mo w w' := by
  have f2 := (Fr.refl (fun _ => False) w).alloc (.cells #[.int .i64 0, .int .i64 0, .bool false, .int .i64 0, .int .i64 0, .int .i64 0, .int .i64 0, .int .i64 0, .int .i64 0, .int .i64 0, .int .i64 0] 66)
  have hRc := Blk.z11 w
  have h2 := h.same f2
  have hmw : ∀ c, B.mo c → c < w.heap.size := fun c hc => h.lt hc
  have F0 : Fr B.mo w _ := f2.mono (fun _ _ h => h.elim)
  by_cases hL : 128 < p.size ∨ 256 < s.size
  · have hsol : Sol p s 0 12 0 none := .long hL
    have hd : (128 < (p.size : Int)) ∨ ((p.size : Int) ≤ 128 ∧ 256 < (s.size : Int)) := by omega
    clear hL
    rcases hd with hd | ⟨hd, hd2⟩
    all_goals
      go_enter Tryz.func23, Tryz.ntmps23
      go_wp2_with fail
      refine (refusedF_any 12 0 _).mono ?_
      rintro v w3 ⟨rfl, f3⟩
      have hRc3 := hRc.frame f3 (fun h => h)
      have fd3 := h2.same f3
      have F3 := F0.trans f3 (fun _ _ h => h.elim)
      have zR := hRc3.frozen
      have lR := hRc3.lt
      have m0 := hRc3.cell (o := 0) (by omega)
      have m1 := hRc3.cell (o := 1) (by omega)
      have m2 := hRc3.cell (o := 2) (by omega)
      have m3 := hRc3.cell (o := 3) (by omega)
      have m4 := hRc3.cell (o := 4) (by omega)
      have m5 := hRc3.cell (o := 5) (by omega)
      have m6 := hRc3.cell (o := 6) (by omega)
      have m7 := hRc3.cell (o := 7) (by omega)
      have m8 := hRc3.cell (o := 8) (by omega)
      have m9 := hRc3.cell (o := 9) (by omega)
      have m10 := hRc3.cell (o := 10) (by omega)
      rw [foundV_no]
      go_wp2_with fail
      have e11 := (cells11 hRc3 (.int .i64 12) (.int .i64 0) (.bool false) (.int .i64 (-1)) (.int .i64 (-1)) (.int .i64 (-1)) (.int .i64 (-1)) (.int .i64 (-1)) (.int .i64 (-1)) (.int .i64 (-1)) (.int .i64 (-1)))
      have k5 := (fr11 w3 w.heap.size (.int .i64 12) (.int .i64 0) (.bool false) (.int .i64 (-1)) (.int .i64 (-1)) (.int .i64 (-1)) (.int .i64 (-1)) (.int .i64 (-1)) (.int .i64 (-1)) (.int .i64 (-1)) (.int .i64 (-1)))
      have r0 := e11.cell (o := 0) (by omega)
      have r1 := e11.cell (o := 1) (by omega)
      have r2 := e11.cell (o := 2) (by omega)
      have r3 := e11.cell (o := 3) (by omega)
      have r4 := e11.cell (o := 4) (by omega)
      have r5 := e11.cell (o := 5) (by omega)
      have r6 := e11.cell (o := 6) (by omega)
      have r7 := e11.cell (o := 7) (by omega)
      have r8 := e11.cell (o := 8) (by omega)
      have r9 := e11.cell (o := 9) (by omega)
      have r10 := e11.cell (o := 10) (by omega)
      simp only [get11] at r0 r1 r2 r3 r4 r5 r6 r7 r8 r9 r10
      have KK := (fd3.frame k5 (fun c hc e => by have := hmw c hc; omega)).le (show _ ≤ K + 1 by omega)
      have FF := F3.trans k5 (fun c hl hc => by omega)
      exact bodyPost_ret (v := foundV 12 0 false noC) (by simp [results, Tryz.results23, go_sem, foundV, noC, r0, r1, r2, r3, r4, r5, r6, r7, r8, r9, r10]) rfl ⟨⟨_, _, none, rfl, hsol⟩, KK, FF⟩
  · have hp1 : (p.size : Int) ≤ 128 := by omega
    have hs1 : (s.size : Int) ≤ 256 := by omega
    clear hL
    have g0 := h2.bx.cell (o := 0) (by omega)
    have lB := h2.bx.lt
    go_enter Tryz.func23, Tryz.ntmps23
    go_wp2_with fail
    refine (matchM h2.me (by omega) (by omega) p s 0).mono ?_
    rintro v w3 ⟨⟨er3, q3, o3, rfl, hS3⟩, hE3, f3⟩
    have fd3 := h2.step f3 hE3
    have F3 := F0.trans f3 (fun _ _ h => .inr h)
    have hRc3 := hRc.frame f3 (fun e => by have := hmw _ (.inr e); omega)
    have HS3 : Hid _ := hS3
    clear hE3 hS3 g0 lB
    have zR := hRc3.frozen
    have lR := hRc3.lt
    have m0 := hRc3.cell (o := 0) (by omega)
    have m1 := hRc3.cell (o := 1) (by omega)
    have m2 := hRc3.cell (o := 2) (by omega)
    have m3 := hRc3.cell (o := 3) (by omega)
    have m4 := hRc3.cell (o := 4) (by omega)
    have m5 := hRc3.cell (o := 5) (by omega)
    have m6 := hRc3.cell (o := 6) (by omega)
    have m7 := hRc3.cell (o := 7) (by omega)
    have m8 := hRc3.cell (o := 8) (by omega)
    have m9 := hRc3.cell (o := 9) (by omega)
    have m10 := hRc3.cell (o := 10) (by omega)
    unfold foundV
    go_wp2_with fail
    have e11 := (cells11 hRc3 (.int .i64 er3) (.int .i64 q3) (.bool (okOf o3)) (.int .i64 (cpOf o3 0)) (.int .i64 (cpOf o3 1)) (.int .i64 (cpOf o3 2)) (.int .i64 (cpOf o3 3)) (.int .i64 (cpOf o3 4)) (.int .i64 (cpOf o3 5)) (.int .i64 (cpOf o3 6)) (.int .i64 (cpOf o3 7)))
    have k5 := (fr11 w3 w.heap.size (.int .i64 er3) (.int .i64 q3) (.bool (okOf o3)) (.int .i64 (cpOf o3 0)) (.int .i64 (cpOf o3 1)) (.int .i64 (cpOf o3 2)) (.int .i64 (cpOf o3 3)) (.int .i64 (cpOf o3 4)) (.int .i64 (cpOf o3 5)) (.int .i64 (cpOf o3 6)) (.int .i64 (cpOf o3 7)))
    have r0 := e11.cell (o := 0) (by omega)
    have r1 := e11.cell (o := 1) (by omega)
    have r2 := e11.cell (o := 2) (by omega)
    have r3 := e11.cell (o := 3) (by omega)
    have r4 := e11.cell (o := 4) (by omega)
    have r5 := e11.cell (o := 5) (by omega)
    have r6 := e11.cell (o := 6) (by omega)
    have r7 := e11.cell (o := 7) (by omega)
    have r8 := e11.cell (o := 8) (by omega)
    have r9 := e11.cell (o := 9) (by omega)
    have r10 := e11.cell (o := 10) (by omega)
    simp only [get11] at r0 r1 r2 r3 r4 r5 r6 r7 r8 r9 r10
    have KK := (fd3.frame k5 (fun c hc e => by have := hmw c hc; omega)).le (show _ ≤ K + 1 by omega)
    have FF := F3.trans k5 (fun c hl hc => by omega)
    exact bodyPost_ret (v := foundV er3 q3 (okOf o3) (cpOf o3)) (by simp [results, Tryz.results23, go_sem, foundV, r0, r1, r2, r3, r4, r5, r6, r7, r8, r9, r10]) rfl ⟨⟨_, _, o3, rfl, HS3.out⟩, KK, FF⟩
structure FaAt (w wr : World) (B : Ma) (K : Nat) (p s : ByteArray) (fr : Nat) (lv : Value) (l : List Cp) : Prop where
  at_ : KcAt wr lv l
  own : ∀ b, isBk lv b → w.heap.size ≤ b
  all : ∀ r, All p s fr r → All p s 0 (l ++ r)
  len : l.length ≤ fr
  z : (fr = 0 ∧ l = []) ∨ ∃ q o, Sol p s 0 0 q o
  md : Mod wr B (K + fr)
  fr' : Fr B.mo w wr
theorem KcAt.bk {w : World} {v : Value} {p : List Cp} (h : KcAt w v p) {b : Nat} (hb : isBk v b) : b < w.heap.size := by
  obtain ⟨n, k, rfl⟩ := hb
  rcases h with ⟨h, _⟩ | ⟨b', _, _, e, _, h, _⟩
  · cases h
  · cases e; exact h.lt
theorem isBk_no {n k : Nat} (b : Nat) : ¬ isBk (.slice none n k) b := fun hb => by obtain ⟨_, _, e⟩ := hb; cases e
set_option maxRecDepth 100000 in
set_option maxHeartbeats 8000000 in
theorem findAllM {w : World} {B : Ma} {K : Nat} (h : Mod w B K) (hK : K ≤ 900000000000000000) (p s : ByteArray) :
    Calls Tryz.prog 24 #[.pointer (some ⟨B.mb, 0, none⟩), .string p, .string s] w fun v w' => ∃ er q lv cs, v = .returned (.tuple #[lv, .int .i64 er, .int .i64 q]) ∧ FAll p s er q cs ∧ KcAt w' lv cs ∧ cs.length ≤ 257 ∧ (∀ b, isBk lv b → w.heap.size ≤ b) ∧ Mod w' B (K + 300) ∧ Fr B.mo w w' := by
  have hmw : ∀ c, B.mo c → c < w.heap.size := fun c hc => h.lt hc
  by_cases hL : 128 < p.size ∨ 256 < s.size
  · have hsol : Sol p s 0 12 0 none := .long hL
    have hd : (128 < (p.size : Int)) ∨ ((p.size : Int) ≤ 128 ∧ 256 < (s.size : Int)) := by omega
    have hfn := h.le (show K ≤ K + 300 by omega)
    clear hL
    rcases hd with hd | ⟨hd, hd2⟩
    all_goals
      go_enter Tryz.func24, Tryz.ntmps24
      go_wp2_with fail
      refine bodyPost_ret (v := .tuple #[.slice none 0 0, .int .i64 12, .int .i64 0]) (by simp [results, Tryz.results24, go_sem]) rfl ?_
      exact ⟨12, 0, .slice none 0 0, [], rfl, .inl ⟨by decide, rfl, _, hsol⟩, .inl ⟨rfl, rfl⟩, by simp, fun b hb => absurd hb (isBk_no b), hfn, Fr.refl _ _⟩
  · have hp1 : (p.size : Int) ≤ 128 := by omega
    have hs1 : (s.size : Int) ≤ 256 := by omega
    have hss : s.size ≤ 256 := by omega
    clear hL
    go_enter Tryz.func24, Tryz.ntmps24
    go_wp2_with fail
    go_loopg [9, 10] (s.size + 1) (fun g lv iv wr => ∃ fr l, iv = .int .i64 (fr : Nat) ∧ fr + g = s.size + 1 ∧ FaAt w wr B K p s fr lv l)
    case atStart => exact ⟨0, [], rfl, by omega, ⟨.inl ⟨rfl, rfl⟩, fun b hb => absurd hb (isBk_no b), fun r h => h, by simp, .inl ⟨rfl, rfl⟩, h, Fr.refl _ _⟩⟩
    case round =>
      obtain ⟨fr, l, rfl, hg, ⟨hK1, own, all, len, z, md, frr⟩⟩ := hrel
      have hg' : fr + gk = s.size + 1 := hg
      clear hg
      have frb : (fr : Int) ≤ 257 := by omega
      have Hall : Hid _ := all
      have Hown : Hid _ := own
      have Hz : Hid _ := z
      clear all own z
      by_cases hlt : fr ≤ s.size
      · have hI : decide ((fr : Int) ≤ (s.size : Nat)) = true := decide_eq_true (by omega)
        have g0 := md.bx.cell (o := 0) (by omega)
        have lB := md.bx.lt
        go_wp2_with fail
        refine (matchM md.me (by omega) (by omega) p s fr).mono ?_
        rintro v w2 ⟨⟨er, q, o, rfl, hS⟩, hE2, f2⟩
        have md2 := md.step f2 hE2
        have F2 := frr.trans f2 (fun _ _ h => .inr h)
        have hK2 := hK1.frame f2 (fun b n c e hm => by have h1 := Hown.out b ⟨_, _, e⟩; have h2 := hmw b (.inr hm); omega)
        have HS : Hid _ := hS
        clear hE2 f2 g0 lB hI hS
        by_cases he : er = 0
        · subst he
          cases o with
          | none =>
            rw [show okOf none = false from rfl, show cpOf none = noC from rfl, foundV_no]
            have kA := (Fr.refl (fun _ => False) w2).alloc (.cells #[.int .i64 0, .int .i64 q, .bool false, .int .i64 (-1), .int .i64 (-1), .int .i64 (-1), .int .i64 (-1), .int .i64 (-1), .int .i64 (-1), .int .i64 (-1), .int .i64 (-1)] 66)
            have md3 := (md2.same kA).le (show _ ≤ K + 300 by omega)
            have F3 := F2.trans kA (fun _ _ h => h.elim)
            have hK3 := hK2.frame kA (fun _ _ _ _ h => h)
            have hA := Hall.out [] (.stop hlt HS.out)
            rw [List.append_nil] at hA
            have HA : Hid _ := hA
            have HK3 : Hid _ := hK3
            have HF3 : Hid _ := F3
            have Hmd3 : Hid _ := md3
            clear hA kA hK3 F3 md3
            go_wp2_with fail
            refine bodyPost_ret (v := .tuple #[u9, .int .i64 0, .int .i64 0]) (by simp [results, Tryz.results24, go_sem]) rfl ?_
            exact ⟨0, 0, u9, l, rfl, .inr ⟨rfl, rfl, HA.out⟩, HK3.out, by omega, Hown.out, Hmd3.out, HF3.out⟩
          | some c =>
            have hm := HS.out.hit.2.2.2.2.2
            have hnx := nx_lt hm
            have hall2 : ∀ r, All p s (nx c) r → All p s 0 (l ++ [c] ++ r) := fun r hr => by
              have := Hall.out (c :: r) (.step HS.out hr)
              rwa [List.append_assoc, List.singleton_append]
            have Hall2 : Hid _ := hall2
            have c1b : c 1 ≤ 256 := by have := hm.hi; omega
            have c1l : 0 ≤ c 1 := by have := hm.lo; have := hm.mid; omega
            have hnxv : (c 0 = c 1 ∧ ((nx c : Nat) : Int) = c 1 + 1) ∨ (c 0 ≠ c 1 ∧ ((nx c : Nat) : Int) = c 1) := by
              unfold nx
              by_cases hc : c 0 = c 1
              · rw [if_pos hc]; left; exact ⟨hc, by omega⟩
              · rw [if_neg hc]; right; exact ⟨hc, by omega⟩
            have hz2 : ∃ q o, Sol p s 0 0 q o := by
              rcases Hz.out with ⟨h1, _⟩ | h1
              · subst h1; exact ⟨_, _, HS.out⟩
              · exact h1
            have Hz2 : Hid _ := hz2
            rw [show okOf (some c) = true from rfl, show cpOf (some c) = c from rfl]
            unfold foundV
            have kA := (Fr.refl (fun _ => False) w2).alloc (.cells #[.int .i64 0, .int .i64 q, .bool true, .int .i64 (c 0), .int .i64 (c 1), .int .i64 (c 2), .int .i64 (c 3), .int .i64 (c 4), .int .i64 (c 5), .int .i64 (c 6), .int .i64 (c 7)] 66)
            have kB := kA.alloc (.cells #[.int .i64 (c 0), .int .i64 (c 1), .int .i64 (c 2), .int .i64 (c 3), .int .i64 (c 4), .int .i64 (c 5), .int .i64 (c 6), .int .i64 (c 7)] 64)
            have hB := (fnd11 w2 0 q true c).alloc (.cells #[.int .i64 (c 0), .int .i64 (c 1), .int .i64 (c 2), .int .i64 (c 3), .int .i64 (c 4), .int .i64 (c 5), .int .i64 (c 6), .int .i64 (c 7)] 64)
            have hx := KcP.of8 (capB (w2.alloc (.cells #[.int .i64 0, .int .i64 q, .bool true, .int .i64 (c 0), .int .i64 (c 1), .int .i64 (c 2), .int .i64 (c 3), .int .i64 (c 4), .int .i64 (c 5), .int .i64 (c 6), .int .i64 (c 7)] 66)) c)
            have hK3 := hK2.frame kB (fun _ _ _ _ h => h)
            have hbk := fun (b : Nat) (hb : isBk _ b) => hK2.bk hb
            have F3 := F2.trans kB (fun _ _ h => h.elim)
            have md3 := md2.same kB
            rw [World.size_alloc] at hx
            obtain ⟨va, vc, hvv, _⟩ := hK3.sl
            subst hvv
            have Hbk : Hid _ := hbk
            clear hall2 hm hz2 kA kB hbk hK2 hK1 md md2 F2 frr
            rcases hnxv with ⟨hc, hv⟩ | ⟨hc, hv⟩
            · have t1 : (c 1 == c 0) = true := by simpa using hc.symm
              have Hv : Hid _ := hv
              clear hc hv
              go_wp2_with (
                at_builtin
                refine wpList_appendKc (by rfl) _ _ (by rfl) (.slice va l.length vc) l c (w2.heap.size + 1) 1 (by rfl) (by rfl) hK3 hx (by omega) ?_
                intro v' w5 hc5 hb5 f5
                have hB5 := hB.frame f5 (fun ⟨n', c', e⟩ => by have := Hbk.out _ ⟨_, _, e⟩; omega)
                have m3 := hB5.cell (o := 3) (by omega)
                have m4 := hB5.cell (o := 4) (by omega)
                have lB5 := hB5.lt
                simp only [get11] at m3 m4)
              have own5 : ∀ b, isBk v' b → w.heap.size ≤ b := fun b ⟨n', c', e⟩ => by
                rcases hb5 b n' c' e with h1 | ⟨n2, c2, h1⟩
                · have := F3.size; omega
                · exact Hown.out b ⟨_, _, h1⟩
              have F5 := F3.trans f5 (fun b hl ⟨n', c', e⟩ => by have := Hown.out b ⟨_, _, e⟩; omega)
              have md5 := (md3.frame f5 (fun b hm ⟨n', c', e⟩ => by have h1 := Hown.out b ⟨_, _, e⟩; have h2 := hmw b hm; omega)).le (show _ ≤ K + nx c by omega)
              go_roundg (s.size + 1 - nx c)
              case measure => omega
              case rel => exact ⟨nx c, l ++ [c], by rw [Hv.out], by omega, ⟨hc5, own5, Hall2.out, by simp; omega, .inr Hz2.out, md5, F5⟩⟩
            · have t1 : (c 1 == c 0) = false := by simpa using fun e => hc e.symm
              have Hv : Hid _ := hv
              clear hc hv
              go_wp2_with (
                at_builtin
                refine wpList_appendKc (by rfl) _ _ (by rfl) (.slice va l.length vc) l c (w2.heap.size + 1) 1 (by rfl) (by rfl) hK3 hx (by omega) ?_
                intro v' w5 hc5 hb5 f5
                have hB5 := hB.frame f5 (fun ⟨n', c', e⟩ => by have := Hbk.out _ ⟨_, _, e⟩; omega)
                have m3 := hB5.cell (o := 3) (by omega)
                have m4 := hB5.cell (o := 4) (by omega)
                have lB5 := hB5.lt
                simp only [get11] at m3 m4)
              have own5 : ∀ b, isBk v' b → w.heap.size ≤ b := fun b ⟨n', c', e⟩ => by
                rcases hb5 b n' c' e with h1 | ⟨n2, c2, h1⟩
                · have := F3.size; omega
                · exact Hown.out b ⟨_, _, h1⟩
              have F5 := F3.trans f5 (fun b hl ⟨n', c', e⟩ => by have := Hown.out b ⟨_, _, e⟩; omega)
              have md5 := (md3.frame f5 (fun b hm ⟨n', c', e⟩ => by have h1 := Hown.out b ⟨_, _, e⟩; have h2 := hmw b hm; omega)).le (show _ ≤ K + nx c by omega)
              go_roundg (s.size + 1 - nx c)
              case measure => omega
              case rel => exact ⟨nx c, l ++ [c], by rw [Hv.out], by omega, ⟨hc5, own5, Hall2.out, by simp; omega, .inr Hz2.out, md5, F5⟩⟩
        · have t0 : (er != 0) = true := by simpa using he
          obtain ⟨hf0, hl0⟩ : fr = 0 ∧ l = [] := by
            rcases Hz.out with h1 | ⟨q1, o1, h1⟩
            · exact h1
            · exact absurd (h1.zero HS.out hlt).1 he
          have ho := HS.out.none he
          subst ho hf0 hl0
          rw [show okOf none = false from rfl, show cpOf none = noC from rfl, foundV_no]
          have kA := (Fr.refl (fun _ => False) w2).alloc (.cells #[.int .i64 er, .int .i64 q, .bool false, .int .i64 (-1), .int .i64 (-1), .int .i64 (-1), .int .i64 (-1), .int .i64 (-1), .int .i64 (-1), .int .i64 (-1), .int .i64 (-1)] 66)
          have md3 := (md2.same kA).le (show _ ≤ K + 300 by omega)
          have F3 := F2.trans kA (fun _ _ h => h.elim)
          have HE : Hid _ := he
          have HF3 : Hid _ := F3
          have Hmd3 : Hid _ := md3
          clear he kA F3 md3
          go_wp2_with fail
          go_quiet (fail)
          go_wp2_with fail
          refine bodyPost_ret (v := .tuple #[.slice none 0 0, .int .i64 er, .int .i64 q]) (by simp [results, Tryz.results24, go_sem]) rfl ?_
          exact ⟨er, q, _, [], rfl, .inl ⟨HE.out, rfl, _, HS.out⟩, .inl ⟨rfl, rfl⟩, by simp, fun b hb => absurd hb (isBk_no b), Hmd3.out.same ((Fr.refl (fun _ => False) _).drewN _), HF3.out.drewN _⟩
      · have hI : decide ((fr : Int) ≤ (s.size : Nat)) = false := decide_eq_false (by omega)
        have hA := Hall.out [] (.past (by omega))
        rw [List.append_nil] at hA
        have HA : Hid _ := hA
        have md3 := md.le (show _ ≤ K + 300 by omega)
        clear hA
        go_wp2_with fail
        refine bodyPost_ret (v := .tuple #[u9, .int .i64 0, .int .i64 0]) (by simp [results, Tryz.results24, go_sem]) rfl ?_
        exact ⟨0, 0, u9, l, rfl, .inr ⟨rfl, rfl, HA.out⟩, hK1, by omega, Hown.out, md3, frr⟩
end Go.Proofs.Qxb6500283aGreat
