/- The real checker: all expressions. -/
import Derived.Test.Qxb6500277aGreatCX3
import Derived.Test.Qxb6500277aGreatCX4
namespace Go.Proofs.Qxb6500277aGreat
open Go Go.RowKit

section
variable {w w' : World} {A : Ca} {X : Cx} {cur : Nat} {s : Ck} {er po : Int} {n : Nat}
theorem callR_pos (hX : ∀ i, 0 ≤ (fAt X.fs i).ret ∧ (fAt X.fs i).ret < 8) (b : Nat) (nm : ByteArray) (p : Int) (gs : Exps) (t : Int) (s' : Ck) (h : callR X b nm p gs s = .ok t s') : 0 ≤ t := by
  unfold callR at h
  split at h
  · cases h
  · obtain ⟨ts, s1, _, h2⟩ := Rc.bind_eq h
    split at h2
    · cases h2
    · split at h2
      · cases h2
      · injection h2 with h3 _
        rw [← h3]
        exact (hX _).1
set_option maxRecDepth 100000 in
set_option maxHeartbeats 8000000 in
theorem ex_call (I : ExC A X cur n) (H : CM w A X cur s 0 0) {b : Nat} {nx x : Int} {nm : ByteArray} {p : Int} {gs : Exps} (L : Lie A.ns b (flE b nx (.call nm p gs))) (tg : TyEs gs) (hsz : szEs gs ≤ n) (hx : x = rtE b (.call nm p gs)) : Calls Tryz.prog 191 #[.pointer (some ⟨A.c, 0, none⟩), .int .i64 x] w (EP w A X cur (ckE X b (.call nm p gs) s)) := by
  have hB0 := callC I H L tg hsz hx
  obtain ⟨K, hK⟩ : ∃ K, K = b + szEs gs := ⟨_, rfl⟩
  obtain rfl : x = ((K : Nat) : Int) := by rw [hx, hK]; simp [rtE, szE]; try omega
  obtain ⟨L1, hn⟩ := L.call
  rw [← hK] at hn
  have hr := ckE_call (X := X) b nm p gs s
  rw [← hK] at hr
  have Hr : Hid (_ = _) := hr
  obtain ⟨hk, hnb, r415, n0, n1, n2, n3, n4, n5, n6, n7, n8⟩ := H.node hn
  try simp only at n0 n1 n2 n3 n4 n5 n6 n7 n8
  obtain ⟨r0, r161, r162, r163, r164, r325, r414, r416, r417, r418, r419, hz⟩ := H.regs
  obtain ⟨hlt, hlt2, hlt3⟩ := H.blt
  have ty0 := H.tyb.cell (o := K) hk
  have tyz := H.tyb.frozen
  have rf0 := H.rfb.cell (o := K) hk
  have rfz := H.rfb.frozen
  have h200 := H.le
  have hkl : ((K : Nat) : Int) < A.ns.length := by omega
  have hK0 : ((K : Nat) : Int) ≥ 0 := by omega
  have HK : Hid _ := hK
  clear hr L hx hK
  have hB := hB0
  clear hB0
  have hpos := callR_pos (X := X) (s := s) H.xok.rt b nm p gs
  clear H
  go_enter Tryz.func191, Tryz.ntmps191
  go_wp2_with fail
  refine hB.mono ?_
  rintro v w1 ⟨k1, h⟩
  clear hB
  cases hq : callR X b nm p gs s with
  | bad er po =>
    rw [hq] at h
    obtain ⟨rfl, h0, s', C⟩ := h
    have HQ : Hid (_ = _) := hq
    clear hq hpos
    go_wp2_with fail
    go_ret
    exact EP.bad (by rw [Hr.out, HQ.out]; rfl) k1 h0 C
  | ok t s1 =>
    rw [hq] at h
    obtain ⟨rfl, C1⟩ := h
    have t0 := hpos t s1 hq
    have z0 : decide (t ≥ 0) = true := decide_eq_true t0
    have HQ : Hid (_ = _) := hq
    clear hq hpos
    clear hnb r415 n0 n1 n2 n3 n4 n5 n6 n7 r0 r161 r162 r163 r164 r325 r414 r416 r417 r418 r419 hz hlt hlt2 hlt3 ty0 tyz rf0 rfz
    obtain ⟨_, hnb, r415, n0, n1, n2, n3, n4, n5, n6, n7, n8⟩ := C1.node hn
    try simp only at n0 n1 n2 n3 n4 n5 n6 n7 n8
    obtain ⟨r0, r161, r162, r163, r164, r325, r414, r416, r417, r418, r419, hz⟩ := C1.regs
    obtain ⟨hlt, hlt2, hlt3⟩ := C1.blt
    have ty0 := C1.tyb.cell (o := K) hk
    have tyz := C1.tyb.frozen
    have rf0 := C1.rfb.cell (o := K) hk
    have rfz := C1.rfb.frozen
    have HN : Hid _ := C1.note K (t)
    have HF : Hid _ := k1
    clear C1 k1
    go_wp2_with fail
    go_ret
    exact EP.ok (by rw [Hr.out, HQ.out]; rfl) (HF.out.trans HN.out.2 (fun _ _ h => h)) HN.out.1
theorem exAll (A : Ca) (X : Cx) (cur : Nat) : ∀ n, ExC A X cur n
  | 0 => fun e hn _ => by have := szE_pos e; omega
  | n + 1 => fun e hn ht w s b nx x H L hx => by
    have I := exAll A X cur n
    cases e with
    | num v p => exact ex_num H L hx
    | boo v p => exact ex_boo H L hx
    | var nm p => exact ex_var H L hx
    | rd p => exact ex_rd H L hx
    | call nm p gs =>
      simp only [szE] at hn; simp only [TyE] at ht
      exact ex_call I H L ht (by omega) hx
    | idx p a c =>
      simp only [szE] at hn; simp only [TyE] at ht
      exact ex_idx I H L ht.1 ht.2 (by omega) hx
    | new t p e =>
      simp only [szE] at hn; simp only [TyE] at ht
      exact ex_new I H L ht.2 ht.1 (by omega) hx
    | len p e =>
      simp only [szE] at hn; simp only [TyE] at ht
      exact ex_len I H L ht (by omega) hx
    | un k p e =>
      simp only [szE] at hn; simp only [TyE] at ht
      exact ex_un I H L ht (by omega) hx
    | bin k p l r =>
      simp only [szE] at hn; simp only [TyE] at ht
      exact ex_bin I H L ht.1 ht.2 (by omega) hx
theorem exC (e : Exp) (ht : TyE e) (H : CM w A X cur s 0 0) {b : Nat} {nx x : Int} (L : Lie A.ns b (flE b nx e)) (hx : x = rtE b e) : Calls Tryz.prog 191 #[.pointer (some ⟨A.c, 0, none⟩), .int .i64 x] w (EP w A X cur (ckE X b e s)) := exAll A X cur _ e (Nat.le_refl _) ht w s b nx x H L hx
theorem wantC (e : Exp) (ht : TyE e) (H : CM w A X cur s 0 0) {b : Nat} {nx x : Int} (L : Lie A.ns b (flE b nx e)) (hx : x = rtE b e) (t : Int) : Calls Tryz.prog 190 #[.pointer (some ⟨A.c, 0, none⟩), .int .i64 x, .int .i64 t] w (CB w A X cur (wantE X b e t s)) := wantF (exAll A X cur _) e (Nat.le_refl _) ht H L hx t
end
end Go.Proofs.Qxb6500277aGreat
