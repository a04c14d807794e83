/- The definitional interpreter: exec: conditions. -/
import Derived.Test.Qxb6500277aGreatGM15
namespace Go.Proofs.Qxb6500277aGreat
open Go Go.RowKit

section
variable {w w' w0 w1 w2 w3 : World} {G : Gmx} {s s' t t' : Ss} {en en' v : Int} {Q : Nat → Prop} {ov lv : Value} {du dr li lr : Nat} {m m' : Mi} {q : Ri} {ret : Int} {β : Bool}
theorem Ls.dropU (E : Ev0 G w Q s lv li lr) (h : Ls G w Q lv w' s 1 0 t) : Ls G w Q lv (w'.setCell ⟨G.r, 15, none⟩ (.int .i64 (t.us - 1))) s 0 0 { t with us := t.us - 1 } := by
  have hu := h.rl.us
  have s0 := E.sb.u0
  have u48 := h.sb.u48
  have kk := (Fr.refl (fun b => b = G.r) w').setC G.r 15 (.int .i64 (t.us - 1)) fun _ => rfl
  have hq : Gw Q w w' G.r := by
    obtain ⟨ov, O, Hv⟩ := h.ml.1
    exact Hv.qr
  refine ⟨h.ml.setU (t.us - 1), h.lo.frame kk fun b hb e => (h.ev0 E).lq b hb (e ▸ hq), ⟨?_, ?_, h.sb.r24, h.sb.mi, h.sb.ou, h.sb.f1, h.sb.f0, h.sb.ip, h.sb.il⟩, ⟨h.rl.rb, h.rl.ll, ?_, h.rl.rt, h.rl.fu⟩⟩
  · show 0 ≤ t.us - 1
    omega
  · show t.us - 1 ≤ 48
    omega
  · show t.us - 1 = s.us + (0 : Nat)
    omega
/-- A block runs behind other things. -/
theorem XeC.blk {fm : Int} {n : Nat} (X : XeC G fm n) {ss : Stms} (hn : szSs ss + 1 ≤ n) {b k : Nat} {p : Int} (E : Ev0 G w Q s lv li lr) (h : Ls G w Q lv w' s 0 0 t) (hf : s.fuel ≤ fm) (L : Lie G.ns b (flB b p ss)) (hk : k = b + szSs ss) (W : WtSs G.P0 li lr ret b ss) :
    Calls Tryz.prog 56 #[.pointer (some ⟨G.r, 0, none⟩), .int .i64 (k : Nat), lv, .int .i64 (s.rb : Nat)] w' fun z w1 => ∃ β v, z = .returned (.tuple #[.bool β, .int .i64 v]) ∧ ExF G w Q lv w1 s ret (bodyI G.P0 (.sts b ss) t) β v := by
  obtain ⟨L1, L2⟩ := L.blk
  have q := X.2 ss hn w' (Gw Q w w') t b k p li lr lv ret (h.ev0 E) (Int.le_trans h.rl.fu hf) L1 (by rw [hk]; exact L2) W
  rw [h.rl.rb] at q
  refine q.mono ?_
  rintro z w1 ⟨β, v, rfl, k⟩
  exact ⟨β, v, rfl, h.exf k⟩
/-- Out grows. -/
theorem RMv.outp {O : Nat → Prop} {ov' : Value} {l : List Int} (H : RMv w G s en Q ov O) (k : Fr (isB ov) w w1) (hc : KiAt w1 ov' l) (hb : ∀ b, isB ov' b → w.heap.size ≤ b ∨ isB ov b) (s1 : s' = { s with out := l }) : RM (w1.setCell ⟨G.r, 14, none⟩ ov') G s' en (Gw Q w (w1.setCell ⟨G.r, 14, none⟩ ov')) ∧ Fr Q w (w1.setCell ⟨G.r, 14, none⟩ ov') := by
  subst s1
  have kk := (Fr.refl (fun b => b = G.r) w1).setC G.r 14 ov' fun _ => rfl
  have hro : ¬ isB ov G.r := fun h => (H.qv _ h).2.1 rfl
  have hrl := H.rlt
  have F : Fr Q w (w1.setCell ⟨G.r, 14, none⟩ ov') := (k.mono fun b _ h => (H.qv b h).1).trans kk fun b _ e => e ▸ H.qr
  refine ⟨⟨ov', O, ?_, ?_, ?_, .inl H.qr, fun b h => ⟨.inl (H.qo b h).1, (H.qo b h).2⟩, fun b h => ?_, H.glt F.size, ?_, ?_, fun b h => ⟨H.gsb b h, Nat.lt_of_lt_of_le (H.sb b h).2 F.size⟩⟩, F⟩
  · refine ((H.blk.frame k hro).set 14 ov').congr fun o ho => ?_
    unfold upd gmC
    by_cases e : o = 14
    · subst e; rfl
    · rw [if_neg e]
      by_cases h : o < 10
      · rw [if_pos h, if_pos h]
      · rw [if_neg h, if_neg h]
        obtain rfl | rfl | rfl | rfl | rfl | rfl | rfl : o = 10 ∨ o = 11 ∨ o = 12 ∨ o = 13 ∨ o = 15 ∨ o = 16 ∨ o = 17 := by omega
        all_goals rfl
  · refine hc.frame kk fun b h e => ?_
    rcases hb b h with x | x
    · omega
    · exact hro (e ▸ x)
  · exact (H.hp.frame k fun b h x => (H.qv b x).2.2 h).frame kk fun b h => (H.qo b h).2
  · rcases hb b h with x | x
    · refine ⟨.inr ⟨x, ?_⟩, by omega, fun y => by have := H.lt b (H.qo b y).1; omega⟩
      exact Nat.lt_of_lt_of_le (hc.bk h) kk.size
    · exact ⟨.inl (H.qv b x).1, (H.qv b x).2⟩
  · exact (H.an.frame k fun b h x => (H.sb b (.inl h)).1 (H.qv b x).1).frame kk fun b h e => (H.sb b (.inl h)).1 (e ▸ H.qr)
  · exact (H.inp.frame k fun b h x => (H.sb b (.inr h)).1 (H.qv b x).1).frame kk fun b h e => (H.sb b (.inr h)).1 (e ▸ H.qr)
end
set_option maxRecDepth 100000 in
set_option maxHeartbeats 2000000 in
theorem ex_iff {G : Gmx} {fm : Int} {n : Nat} (I : EvC G fm n) (X : XeC G fm n) (p : Int) (e1 : Exp) (bp : Int) (ss : Stms) (he : szE e1 ≤ n) (hs : szSs ss + 1 ≤ n) {w : World} {Q : Nat → Prop} {s : Ss} {b : Nat} {nx : Int} {li lr : Nat} {lv : Value} {ret : Int} (E : Ev0 G w Q s lv li lr) (hf : s.fuel ≤ fm) (L : Lie G.ns b (flS b nx (.iff p e1 bp ss))) (W : WtS G.P0 li lr ret b (.iff p e1 bp ss)) : Calls Tryz.prog 56 #[.pointer (some ⟨G.r, 0, none⟩), .int .i64 ((b + szS (.iff p e1 bp ss) - 1 : Nat) : Int), lv, .int .i64 (s.rb : Nat)] w (ExR G w Q lv s ret (bodyI G.P0 (.st b (.iff p e1 bp ss)) s)) := by
  simp only [flS] at L
  obtain ⟨L1, L2, hN⟩ := L.eb
  clear L
  have ek : b + szS (.iff p e1 bp ss) - 1 = b + szE e1 + (szSs ss + 1) := by simp only [szS]; omega
  rw [ek]
  obtain ⟨k, hk⟩ : ∃ k, k = b + szE e1 + (szSs ss + 1) := ⟨_, rfl⟩
  obtain ⟨nd, hnd⟩ : ∃ nd : Nd, nd = ⟨5, rtE b e1, ((b + szE e1 + szSs ss : Nat) : Int), -1, nx, 0, p, ⟨#[]⟩⟩ := ⟨_, rfl⟩
  rw [← hk, ← hnd] at hN
  rw [← hk]
  obtain ⟨ov, O, Hv⟩ := E.H
  have c10 := Hv.c10
  have c17 := Hv.c17
  have rlt := Hv.rlt
  have hnl := Hv.an.nl
  obtain ⟨vb, evb, vlt, hkl, n0, n1, n2, n3, n4, n5, n6, n7⟩ := Hv.an.hv.at hN
  rw [evb] at c10
  have N0 := Nb.mk' E nd
  have HK : Hid (True ∧ _) := ⟨trivial, And.intro hk (And.intro hnd (And.intro hN (And.intro N0 E)))⟩
  clear hk hnd evb hN N0 Hv E ek
  go_enter Tryz.func56, Tryz.ntmps56
  go_upto_region 4 with fail
  obtain ⟨_, hk, hnd, hN, N, E⟩ := HK.out
  obtain ⟨w2, hw2⟩ : ∃ w2, w2 = w.alloc (.cells #[.int .i64 nd.kind, .int .i64 nd.a, .int .i64 nd.b, .int .i64 nd.c, .int .i64 nd.nx, .int .i64 nd.val, .int .i64 nd.pos, .string nd.name] 145) := ⟨_, rfl⟩
  obtain ⟨nb, hnb⟩ : ∃ nb, nb = w.heap.size := ⟨_, rfl⟩
  rw [← hw2, ← hnb] at N
  rw [← hw2, ← hnb]
  have hlvn := N.lvn hnb
  clear hw2 hnb c10 c17 rlt n0 n1 n2 n3 n4 n5 n6 n7 HK ov O vlt E
  have d0 : nd.kind = 5 := by rw [hnd]
  have Bn := N.bk
  have m0 : w2.cell? ⟨nb, 0, none⟩ = some (.int .i64 nd.kind) := Bn.cell (o := 0) (by omega)
  have m1 : w2.cell? ⟨nb, 1, none⟩ = some (.int .i64 nd.a) := Bn.cell (o := 1) (by omega)
  have m2 : w2.cell? ⟨nb, 2, none⟩ = some (.int .i64 nd.b) := Bn.cell (o := 2) (by omega)
  have m3 : w2.cell? ⟨nb, 3, none⟩ = some (.int .i64 nd.c) := Bn.cell (o := 3) (by omega)
  have m4 : w2.cell? ⟨nb, 4, none⟩ = some (.int .i64 nd.nx) := Bn.cell (o := 4) (by omega)
  have m5 : w2.cell? ⟨nb, 5, none⟩ = some (.int .i64 nd.val) := Bn.cell (o := 5) (by omega)
  have m6 : w2.cell? ⟨nb, 6, none⟩ = some (.int .i64 nd.pos) := Bn.cell (o := 6) (by omega)
  rw [d0] at m0
  have nbl := Bn.lt
  clear d0 Bn
  simp only [WtS] at W
  obtain ⟨W1, W2, W3⟩ := W
  have q := I e1 he w2 Q s b _ nd.a li lr lv N.e2 hf L1 (by rw [hnd]) W1
  unfold EvR at q
  rw [(duT_i W2).1, (duT_i W2).2] at q
  obtain ⟨kb, hkb⟩ : ∃ kb, kb = b + szE e1 + szSs ss := ⟨_, rfl⟩
  have eb : nd.b = ((kb : Nat) : Int) := by rw [hnd, hkb]
  have ec : nd.c = -1 := by rw [hnd]
  have HF : Hid (True ∧ _) := ⟨trivial, And.intro N (And.intro hnd (And.intro X (And.intro hf (And.intro L2 (And.intro W3 (And.intro hkb (And.intro eb (And.intro ec trivial))))))))⟩
  clear N hnd hk W1 W2 W3  I X hN L1 L2 he hf hkb eb ec
  go_wp2_with fail
  refine q.mono ?_
  rintro z w3 ⟨v1, rfl, h⟩
  clear q m0 m1 m2 m3 m4 m5 m6 nbl
  obtain ⟨_, N, hnd, X, hf, L2, W3, hkb, eb, ec, -⟩ := HF.out
  rcases h with h | h
  · obtain ⟨t1, g1, S1, l1⟩ := h.ls N.e2
    obtain ⟨ov, O, Hv⟩ := S1.ml.1
    have c17 := Hv.c17
    have c15 := Hv.c15
    have rlt := Hv.rlt
    have hz := Hv.blk.frozen
    have hnbr : nb ≠ G.r := fun e => N.np (e ▸ N.rQ)
    have Bn := S1.ml.blk N.bk N.np hlvn
    have m2 : w3.cell? ⟨nb, 2, none⟩ = some (.int .i64 nd.b) := Bn.cell (o := 2) (by omega)
    have m3 : w3.cell? ⟨nb, 3, none⟩ = some (.int .i64 nd.c) := Bn.cell (o := 3) (by omega)
    have nbl := Bn.lt
    rw [eb] at m2
    rw [ec] at m3
    have u0 := S1.sb.u0
    have u48 := S1.sb.u48
    have e1' : wrap64 (t1.us - 1) = t1.us - 1 := by simp only [wrap64]; omega
    have S2 := S1.dropU N.e2
    by_cases hv : v1 = 0
    · have yv : (v1 != 0) = false := by rw [hv]; rfl
      have HM : Hid (True ∧ _) := ⟨trivial, And.intro g1 (And.intro S2 hv)⟩
      clear N hnd X hf L2 W3 hkb eb ec g1 S1 l1 h Hv Bn S2 hv
      go_wp2_with fail
      go_ret2
      obtain ⟨_, N, _⟩ := HF.out
      obtain ⟨_, g1, S2, hv⟩ := HM.out
      refine ⟨false, 0, rfl, N.exf ?_⟩
      simp only [bodyI]
      refine ExF.call g1 ?_
      rw [if_neg (by omega)]
      exact ExF.done 0 S2
    · have yv : (v1 != 0) = true := by simpa using hv
      have q2 := X.blk (k := kb) hs N.e2 S2 hf L2 hkb W3
      have HM : Hid (True ∧ _) := ⟨trivial, And.intro g1 hv⟩
      clear N hnd X hf L2 W3 hkb eb ec  g1 S1 l1 h Hv Bn S2 hv
      go_wp2_with fail
      refine q2.mono ?_
      rintro z w4 ⟨β, v, rfl, h⟩
      have HG : Hid (True ∧ _) := ⟨trivial, h⟩
      clear q2 h
      go_wp2_with fail
      go_ret2
      obtain ⟨_, N, _⟩ := HF.out
      obtain ⟨_, g1, hv⟩ := HM.out
      refine ⟨β, v, rfl, N.exf ?_⟩
      simp only [bodyI]
      refine ExF.call g1 ?_
      rw [if_pos hv]
      exact ExF.on HG.out.2
  · obtain ⟨en, he, c17, rlt⟩ := h.c17
    have yy : (en != 0) = true := by simpa using he
    have HD : Hid (True ∧ _) := ⟨trivial, h⟩
    clear h he N hnd X hf L2 W3 hkb eb ec 
    go_wp2_with fail
    go_ret2
    obtain ⟨_, N, _⟩ := HF.out
    refine ⟨false, 0, rfl, N.exf ?_⟩
    simp only [bodyI]
    exact ExF.dead (HD.out.2.dl lv)
set_option maxRecDepth 100000 in
set_option maxHeartbeats 2000000 in
theorem ex_ife {G : Gmx} {fm : Int} {n : Nat} (I : EvC G fm n) (X : XeC G fm n) (p : Int) (e1 : Exp) (bp : Int) (ss : Stms) (cp : Int) (cs : Stms) (he : szE e1 ≤ n) (hs : szSs ss + 1 ≤ n) (hc : szSs cs + 1 ≤ n) {w : World} {Q : Nat → Prop} {s : Ss} {b : Nat} {nx : Int} {li lr : Nat} {lv : Value} {ret : Int} (E : Ev0 G w Q s lv li lr) (hf : s.fuel ≤ fm) (L : Lie G.ns b (flS b nx (.ife p e1 bp ss cp cs))) (W : WtS G.P0 li lr ret b (.ife p e1 bp ss cp cs)) : Calls Tryz.prog 56 #[.pointer (some ⟨G.r, 0, none⟩), .int .i64 ((b + szS (.ife p e1 bp ss cp cs) - 1 : Nat) : Int), lv, .int .i64 (s.rb : Nat)] w (ExR G w Q lv s ret (bodyI G.P0 (.st b (.ife p e1 bp ss cp cs)) s)) := by
  simp only [flS] at L
  obtain ⟨L1, L2, L3, hN⟩ := L.ebb
  clear L
  have ek : b + szS (.ife p e1 bp ss cp cs) - 1 = b + szE e1 + (szSs ss + 1) + (szSs cs + 1) := by simp only [szS]; omega
  rw [ek]
  obtain ⟨k, hk⟩ : ∃ k, k = b + szE e1 + (szSs ss + 1) + (szSs cs + 1) := ⟨_, rfl⟩
  obtain ⟨nd, hnd⟩ : ∃ nd : Nd, nd = ⟨5, rtE b e1, ((b + szE e1 + szSs ss : Nat) : Int), ((b + szE e1 + (szSs ss + 1) + szSs cs : Nat) : Int), nx, 0, p, ⟨#[]⟩⟩ := ⟨_, rfl⟩
  rw [← hk, ← hnd] at hN
  rw [← hk]
  obtain ⟨ov, O, Hv⟩ := E.H
  have c10 := Hv.c10
  have c17 := Hv.c17
  have rlt := Hv.rlt
  have hnl := Hv.an.nl
  obtain ⟨vb, evb, vlt, hkl, n0, n1, n2, n3, n4, n5, n6, n7⟩ := Hv.an.hv.at hN
  rw [evb] at c10
  have N0 := Nb.mk' E nd
  have HK : Hid (True ∧ _) := ⟨trivial, And.intro hk (And.intro hnd (And.intro hN (And.intro N0 E)))⟩
  clear hk hnd evb hN N0 Hv E ek
  go_enter Tryz.func56, Tryz.ntmps56
  go_upto_region 4 with fail
  obtain ⟨_, hk, hnd, hN, N, E⟩ := HK.out
  obtain ⟨w2, hw2⟩ : ∃ w2, w2 = w.alloc (.cells #[.int .i64 nd.kind, .int .i64 nd.a, .int .i64 nd.b, .int .i64 nd.c, .int .i64 nd.nx, .int .i64 nd.val, .int .i64 nd.pos, .string nd.name] 145) := ⟨_, rfl⟩
  obtain ⟨nb, hnb⟩ : ∃ nb, nb = w.heap.size := ⟨_, rfl⟩
  rw [← hw2, ← hnb] at N
  rw [← hw2, ← hnb]
  have hlvn := N.lvn hnb
  clear hw2 hnb c10 c17 rlt n0 n1 n2 n3 n4 n5 n6 n7 HK ov O vlt E
  have d0 : nd.kind = 5 := by rw [hnd]
  have Bn := N.bk
  have m0 : w2.cell? ⟨nb, 0, none⟩ = some (.int .i64 nd.kind) := Bn.cell (o := 0) (by omega)
  have m1 : w2.cell? ⟨nb, 1, none⟩ = some (.int .i64 nd.a) := Bn.cell (o := 1) (by omega)
  have m2 : w2.cell? ⟨nb, 2, none⟩ = some (.int .i64 nd.b) := Bn.cell (o := 2) (by omega)
  have m3 : w2.cell? ⟨nb, 3, none⟩ = some (.int .i64 nd.c) := Bn.cell (o := 3) (by omega)
  have m4 : w2.cell? ⟨nb, 4, none⟩ = some (.int .i64 nd.nx) := Bn.cell (o := 4) (by omega)
  have m5 : w2.cell? ⟨nb, 5, none⟩ = some (.int .i64 nd.val) := Bn.cell (o := 5) (by omega)
  have m6 : w2.cell? ⟨nb, 6, none⟩ = some (.int .i64 nd.pos) := Bn.cell (o := 6) (by omega)
  rw [d0] at m0
  have nbl := Bn.lt
  clear d0 Bn
  simp only [WtS] at W
  obtain ⟨W1, W2, W3, W4⟩ := W
  have q := I e1 he w2 Q s b _ nd.a li lr lv N.e2 hf L1 (by rw [hnd]) W1
  unfold EvR at q
  rw [(duT_i W2).1, (duT_i W2).2] at q
  obtain ⟨kb, hkb⟩ : ∃ kb, kb = b + szE e1 + szSs ss := ⟨_, rfl⟩
  have eb : nd.b = ((kb : Nat) : Int) := by rw [hnd, hkb]
  obtain ⟨kc, hkc⟩ : ∃ kc, kc = b + szE e1 + (szSs ss + 1) + szSs cs := ⟨_, rfl⟩
  have ec : nd.c = ((kc : Nat) : Int) := by rw [hnd, hkc]
  have HF : Hid (True ∧ _) := ⟨trivial, And.intro N (And.intro hnd (And.intro X (And.intro hf (And.intro L2 (And.intro W3 (And.intro hkb (And.intro eb (And.intro ec (And.intro L3 (And.intro W4 hkc))))))))))⟩
  clear N hnd hk W1 W2 W3 W4 L3 hkc I X hN L1 L2 he hf hkb eb ec
  go_wp2_with fail
  refine q.mono ?_
  rintro z w3 ⟨v1, rfl, h⟩
  clear q m0 m1 m2 m3 m4 m5 m6 nbl
  obtain ⟨_, N, hnd, X, hf, L2, W3, hkb, eb, ec, L3, W4, hkc⟩ := HF.out
  rcases h with h | h
  · obtain ⟨t1, g1, S1, l1⟩ := h.ls N.e2
    obtain ⟨ov, O, Hv⟩ := S1.ml.1
    have c17 := Hv.c17
    have c15 := Hv.c15
    have rlt := Hv.rlt
    have hz := Hv.blk.frozen
    have hnbr : nb ≠ G.r := fun e => N.np (e ▸ N.rQ)
    have Bn := S1.ml.blk N.bk N.np hlvn
    have m2 : w3.cell? ⟨nb, 2, none⟩ = some (.int .i64 nd.b) := Bn.cell (o := 2) (by omega)
    have m3 : w3.cell? ⟨nb, 3, none⟩ = some (.int .i64 nd.c) := Bn.cell (o := 3) (by omega)
    have nbl := Bn.lt
    rw [eb] at m2
    rw [ec] at m3
    have u0 := S1.sb.u0
    have u48 := S1.sb.u48
    have e1' : wrap64 (t1.us - 1) = t1.us - 1 := by simp only [wrap64]; omega
    have S2 := S1.dropU N.e2
    by_cases hv : v1 = 0
    · have yv : (v1 != 0) = false := by rw [hv]; rfl
      have q2 := X.blk (k := kc) hc N.e2 S2 hf L3 hkc W4
      have zc : decide (((kc : Nat) : Int) ≥ 0) = true := decide_eq_true (by omega)
      have zc2 : decide ((0 : Int) ≤ ((kc : Nat) : Int)) = true := decide_eq_true (by omega)
      have HM : Hid (True ∧ _) := ⟨trivial, And.intro g1 hv⟩
      clear N hnd X hf L2 W3 hkb eb ec L3 W4 hkc g1 S1 l1 h Hv Bn S2 hv
      go_wp2_with fail
      refine q2.mono ?_
      rintro z w4 ⟨β, v, rfl, h⟩
      have HG : Hid (True ∧ _) := ⟨trivial, h⟩
      clear q2 h
      go_wp2_with fail
      go_ret2
      obtain ⟨_, N, _⟩ := HF.out
      obtain ⟨_, g1, hv⟩ := HM.out
      refine ⟨β, v, rfl, N.exf ?_⟩
      simp only [bodyI]
      refine ExF.call g1 ?_
      rw [if_neg (by omega)]
      exact ExF.on HG.out.2
    · have yv : (v1 != 0) = true := by simpa using hv
      have q2 := X.blk (k := kb) hs N.e2 S2 hf L2 hkb W3
      have HM : Hid (True ∧ _) := ⟨trivial, And.intro g1 hv⟩
      clear N hnd X hf L2 W3 hkb eb ec L3 W4 hkc g1 S1 l1 h Hv Bn S2 hv
      go_wp2_with fail
      refine q2.mono ?_
      rintro z w4 ⟨β, v, rfl, h⟩
      have HG : Hid (True ∧ _) := ⟨trivial, h⟩
      clear q2 h
      go_wp2_with fail
      go_ret2
      obtain ⟨_, N, _⟩ := HF.out
      obtain ⟨_, g1, hv⟩ := HM.out
      refine ⟨β, v, rfl, N.exf ?_⟩
      simp only [bodyI]
      refine ExF.call g1 ?_
      rw [if_pos hv]
      exact ExF.on HG.out.2
  · obtain ⟨en, he, c17, rlt⟩ := h.c17
    have yy : (en != 0) = true := by simpa using he
    have HD : Hid (True ∧ _) := ⟨trivial, h⟩
    clear h he N hnd X hf L2 W3 hkb eb ec L3 W4 hkc
    go_wp2_with fail
    go_ret2
    obtain ⟨_, N, _⟩ := HF.out
    refine ⟨false, 0, rfl, N.exf ?_⟩
    simp only [bodyI]
    exact ExF.dead (HD.out.2.dl lv)
end Go.Proofs.Qxb6500277aGreat
