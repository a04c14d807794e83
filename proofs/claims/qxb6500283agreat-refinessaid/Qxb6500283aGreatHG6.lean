/- Replace. -/
import Derived.Test.Qxb6500283aGreatHP2
import Derived.Laws.IdiomStrings
namespace Go.Proofs.Qxb6500283aGreat
open Go Go.RowKit

set_option maxRecDepth 100000 in
set_option maxHeartbeats 8000000 in
theorem replaceF {X : Nat → Prop} {w : World} {A : Fa} {cs : List Cp} {ps : List Pc} {G : Nat} (h : Fnd X w A cs ps G) (hG : G ≤ 700000000000000000) (p s t : ByteArray) :
    Calls Tryz.prog 50 #[.pointer (some ⟨A.fb, 0, none⟩), .string p, .string s, .string t] w fun v w' => ∃ er q x, v = .returned (.tuple #[.string x, .int .i64 er, .int .i64 q]) ∧ FRep p s t er q x ∧ (∃ cs2 ps2, Fnd X w' A cs2 ps2 (G + 100000)) ∧ Fr (fun c => A.eo c ∨ A.fo c) w w' := by
  by_cases hL : 128 < p.size ∨ 256 < s.size ∨ 32 < t.size
  · have hsol : FRep p s t 12 0 ⟨#[]⟩ := .long hL
    have hd : (128 < (p.size : Int)) ∨ ((p.size : Int) ≤ 128 ∧ 256 < (s.size : Int)) ∨ ((p.size : Int) ≤ 128 ∧ (s.size : Int) ≤ 256 ∧ 32 < (t.size : Int)) := by omega
    have hfn := h.le (show G ≤ G + 100000 by omega)
    clear hL
    rcases hd with hd | ⟨hd, hd2⟩ | ⟨hd, hd2, hd3⟩
    all_goals
      go_enter Tryz.func50, Tryz.ntmps50
      go_wp2_with fail
      refine bodyPost_ret (v := .tuple #[.string ⟨#[]⟩, .int .i64 12, .int .i64 0]) (by simp [results, Tryz.results50, go_sem]) rfl ?_
      exact ⟨12, 0, _, rfl, hsol, ⟨cs, ps, hfn⟩, Fr.refl _ _⟩
  · have hp1 : (p.size : Int) ≤ 128 := by omega
    have hs1 : (s.size : Int) ≤ 256 := by omega
    have ht1 : (t.size : Int) ≤ 32 := by omega
    have hps : p.size ≤ 128 := by omega
    have hss : s.size ≤ 256 := by omega
    have hts : t.size ≤ 32 := by omega
    clear hL
    obtain ⟨ea, eb, hE⟩ := h.eng
    have g0 := h.pm.fd.cell (o := 0) (by omega)
    have g1 := h.pm.fd.cell (o := 1) (by omega)
    have g2 := h.pm.fd.cell (o := 2) (by omega)
    simp only [fdCell] at g0 g1 g2
    have lF := h.pm.fd.lt
    go_enter Tryz.func50, Tryz.ntmps50
    go_wp2_with fail
    refine (hasG hE (by omega) p s 0).mono ?_
    rintro v w1 ⟨⟨er0, q0, o0, rfl, hS⟩, n1, m1, hE1, f1⟩
    have fd1 := h.ofE f1 hE1
    have F1 : Fr (fun c => A.eo c ∨ A.fo c) w w1 := f1.mono (fun _ _ h => .inl h)
    have kA := (Fr.refl (fun _ => False) w1).alloc (.cells #[.int .i64 er0, .int .i64 q0, .bool (okOf o0), .int .i64 (-1), .int .i64 (-1), .int .i64 (-1), .int .i64 (-1), .int .i64 (-1), .int .i64 (-1), .int .i64 (-1), .int .i64 (-1)] 66)
    have hB := new11 w1 (.int .i64 er0) (.int .i64 q0) (.bool (okOf o0)) (.int .i64 (-1)) (.int .i64 (-1)) (.int .i64 (-1)) (.int .i64 (-1)) (.int .i64 (-1)) (.int .i64 (-1)) (.int .i64 (-1)) (.int .i64 (-1))
    have fd2 := fd1.step (X' := fun c => X c ∨ c = w1.heap.size) kA (fun _ h => h.elim) (fun c hc => hc.imp id (fun e => by simp [e]))
    have F2 := F1.trans kA (fun _ _ h => h.elim)
    rw [foundV_no]
    have HS : Hid _ := hS
    clear hS g0 g1 g2 lF hE hE1 f1 kA F1 fd1
    by_cases he : er0 = 0
    · subst he
      have hpm := fd2.pm
      have hFB : A.fb ≠ w1.heap.size := fun e => fd2.xf _ (.inr rfl) (.inl e.symm)
      have hPB : A.pb ≠ w1.heap.size := fun e => fd2.xf _ (.inr rfl) (.inr (.inr e.symm))
      go_wp2_with fail
      refine (compile_any hpm t hts).mono ?_
      rintro v w2 ⟨r, ps', rfl, hC, hP2, f2⟩
      have hB2 := hB.frame f2 (fun e => e.elim (fun e => hFB e.symm) (fun e => hPB e.symm))
      have hpok := hC.psok hts
      have fd3 := fd2.own (cs' := cs) (f2.mono (fun c _ hc => hc.elim .inl (fun e => .inr (.inr e)))) hP2 (fd2.sm.frame f2 (fun e => e.elim (fun e => fd2.ne.1 e.symm) (fun e => fd2.ne.2.1 e.symm))) fd2.asc hpok
      have F3 := F2.trans f2 (fun c _ hc => .inr (hc.elim .inl (fun e => .inr (.inr e))))
      have HC : Hid _ := hC
      clear hC hB fd2 F2 f2 hP2 hpm
      by_cases hr : 0 ≤ r
      · have hfin := (fd3.step (X' := X) (Fr.refl (fun _ => False) w2) (fun _ h => h.elim) (fun c hc => .inl (.inl hc))).le (show _ ≤ G + 100000 by omega)
        have hA : FRep p s t 11 r ⟨#[]⟩ := .tmp hps hss hts HS.out HC.out.out hr
        have Hf : Hid _ := hfin
        have HA : Hid _ := hA
        clear hfin hA
        go_wp2_with fail
        refine bodyPost_ret (v := .tuple #[.string ⟨#[]⟩, .int .i64 11, .int .i64 r]) (by simp [results, Tryz.results50, go_sem]) rfl ?_
        exact ⟨11, r, _, rfl, HA.out, ⟨_, _, Hf.out⟩, F3⟩
      · obtain ⟨rfl, hT⟩ := HC.out.toks (by omega)
        have HT : Hid _ := hT
        clear hT
        have m0 := hB2.cell (o := 0) (by omega)
        have m1 := hB2.cell (o := 1) (by omega)
        have m2 := hB2.cell (o := 2) (by omega)
        have m3 := hB2.cell (o := 3) (by omega)
        have m4 := hB2.cell (o := 4) (by omega)
        have m5 := hB2.cell (o := 5) (by omega)
        have m6 := hB2.cell (o := 6) (by omega)
        have m7 := hB2.cell (o := 7) (by omega)
        have m8 := hB2.cell (o := 8) (by omega)
        have m9 := hB2.cell (o := 9) (by omega)
        have m10 := hB2.cell (o := 10) (by omega)
        have zR := hB2.frozen
        have lR := hB2.lt
        simp only [arr11, get11] at m0 m1 m2 m3 m4 m5 m6 m7 m8 m9 m10
        have hcall := scan_any fd3 (by omega) p s hss HS.out
        rw [foundV_no] at hcall
        have Hcall : Hid _ := hcall
        clear hcall
        go_wp2_with fail
        refine Calls.mono Hcall.out ?_
        rintro v w3 ⟨er, q, cs', rfl, hR, fd4, f4⟩
        have F4 := F3.trans f4 (fun _ _ h => h)
        obtain ⟨rfl, rfl, hAll⟩ : er = 0 ∧ q = 0 ∧ All p s 0 cs' := by
          rcases hR with ⟨h1, _⟩ | ⟨_, h2, h3, h4⟩
          · exact absurd rfl h1
          · exact ⟨h2, h3, h4⟩
        have hlen : cs'.length ≤ 257 := fd4.sm.le
        have hAs : Asc s.size cs' 0 := (hAll.asc.1).asc 0 (Nat.le_refl _) (Nat.zero_le _)
        have hok1 : ∀ p ∈ ps', PcOk p := fun p hp => (hpok.ok p hp).1
        have hpok2 := HT.out.ok hts
        have hin : ∀ p ∈ ps', p.g < 0 → p.hi ≤ t.size := fun p hp => (hpok2.ok p hp).2
        have hbd := size_bound hok1 fd4.pm.le hss hAs
        have hsz := sizeF_any fd4.pm fd4.sm hok1 s hss hAs
        obtain ⟨N, hN⟩ : ∃ N, sizeFrom s.size ps' cs' 0 = N := ⟨_, rfl⟩
        rw [hN] at hbd hsz
        have HN : Hid _ := hN
        have Hsz : Hid _ := hsz
        have HAll : Hid _ := hAll
        have HAs : Hid _ := hAs
        have hNb : N ≤ 10000000 := by omega
        have hNi : (N : Int) ≤ 10000000 := by omega
        clear hN hsz hAll hAs hbd hpok2 hR Hcall m0 m1 m2 m3 m4 m5 m6 m7 m8 m9 m10 zR lR hB2 f4 F3
        go_wp2_with fail
        refine Calls.mono Hsz.out ?_
        rintro v w4 ⟨rfl, f5⟩
        have fd5 := fd4.same f5
        have F5 := F4.trans f5 (fun _ _ h => h.elim)
        clear Hsz fd4 F4 f5
        go_wp2_with (refine wpList_makeB (by rfl) 145 _ _ (by rfl) 5 1 1 (.int .u8 0) N (by rfl) (by rfl) Tryz.underlying145 (by kernel_rfl) (by kernel_rfl) (by kernel_rfl) (by omega) (by omega) ?_; intro w5 f6 s6 b6)
        obtain ⟨nb, hnb⟩ : ∃ nb, nb = w4.heap.size := ⟨_, rfl⟩
        have hFN : A.fb ≠ nb := fun e => by have := fd5.lt (.inr (.inl (.inl rfl : A.fo A.fb))); omega
        have hPN : A.pb ≠ nb := fun e => by have := fd5.lt (.inr (.inl (.inr (.inr rfl) : A.fo A.pb))); omega
        have hSN : A.sb ≠ nb := fun e => by have := fd5.lt (.inr (.inl (.inr (.inl rfl) : A.fo A.sb))); omega
        have hnw : w.heap.size ≤ nb := by have := F5.size; omega
        have fd6 := fd5.step (X' := fun c => X c ∨ c = nb) f6 (fun _ h => h.elim) (fun c hc => by rcases hc with hc | hc; exact .inl (.inl hc); exact .inr ⟨by omega, by omega⟩)
        have F6 := F5.trans f6 (fun _ _ h => h.elim)
        rw [← hnb] at b6 ⊢
        rw [Nat.mul_one] at b6
        have hfill := fill_big (cap := N) fd6.pm fd6.sm hok1 t s hin hts hss HAs.out b6 HN.out.symm (by omega) hFN hPN hSN
        have Hfill : Hid _ := hfill
        clear hnb fd5 s6 hfill b6 F5 f6
        go_wp2_with fail
        refine Calls.mono Hfill.out ?_
        rintro v w6 ⟨rfl, f, b7, hf, f7⟩
        have fd7 := fd6.step (X' := X) f7 (fun c hc => .inl (.inr hc)) (fun c hc => .inl (.inl hc))
        have F7 := F6.trans f7 (fun c hl hc => by omega)
        have hol := out_len t s ps' cs' 0
        rw [HN.out] at hol
        have hcv := run_convert_bytes_back (P := Tryz.prog) w6 145 9 5 ⟨nb, 0, none⟩ N (outFrom t s ps' cs' 0) Tryz.underlying145 Tryz.underlying5 Tryz.underlying9 (fun j hj => by
          rw [Addr.add_lit, Nat.zero_add, b7.cell (by omega), hf j hj])
        rw [hol] at hcv
        have hrep : FRep p s t 0 0 ⟨(outFrom t s ps' cs' 0).toArray⟩ := .ok hps hss hts HAll.out HC.out.out (by simpa using out_rep hts HT.out cs' 0)
        have Hrep : Hid _ := hrep
        have fdn := fd7.le (show _ ≤ G + 100000 by omega)
        clear hrep hf Hfill fd6 fd7 f7 F6 hol
        generalize outFrom t s ps' cs' 0 = ol at hcv Hrep
        go_wp2_with fail
        refine bodyPost_ret (v := .tuple #[.string ⟨ol.toArray⟩, .int .i64 0, .int .i64 0]) (by simp [results, Tryz.results50, go_sem]) rfl ?_
        exact ⟨0, 0, _, rfl, Hrep.out, ⟨_, _, fdn⟩, F7⟩
    · have t0 : (er0 != 0) = true := by simpa using he
      have hA : FRep p s t er0 q0 ⟨#[]⟩ := .pat hps hss hts he HS.out
      have fdn := (fd2.step (X' := X) (Fr.refl (fun _ => False) _) (fun _ h => h.elim) (fun c hc => .inl (.inl hc))).le (show _ ≤ G + 100000 by omega)
      have HA : Hid _ := hA
      have HF : Hid _ := fdn
      clear he hA fdn
      go_wp2_with fail
      go_quiet (fail)
      go_wp2_with fail
      refine bodyPost_ret (v := .tuple #[.string ⟨#[]⟩, .int .i64 er0, .int .i64 q0]) (by simp [results, Tryz.results50, go_sem]) rfl ?_
      exact ⟨er0, q0, _, rfl, HA.out, ⟨_, _, HF.out.same ((Fr.refl (fun _ => False) _).drewN _)⟩, F2.drewN _⟩
end Go.Proofs.Qxb6500283aGreat
