/- The definitional engine: Run (written by gen27.py). -/
import Derived.Test.Qxb6500277aGreatGM26
import Derived.Test.Qxb6500277aGreatMake
namespace Go.Proofs.Qxb6500277aGreat
open Go Go.RowKit

/-- The run's block has been made. -/
structure Bm (wp : World) (G : Gmx) (I : List Int) (fuel : Int) (wx : World) : Prop where
  fr : Fr (fun _ => False) wp wx
  blk : Blk wx G.r 18 (gmC G 0 fuel 0 0 nilS)
  inp : KiAt wx G.iv I
  ib : ∀ b, isB G.iv b → wp.heap.size ≤ b ∧ b ≠ G.r
  rs : wp.heap.size ≤ G.r
theorem Bm.mk' {wp wl : World} {P0 : Pg} {ns : List Nd} {rs : List FR} {hm : Nat} {v t rf f iv : Value} {root main fuel : Int} {I : List Int} (k : Fr (fun _ => False) wp wl) (hi : KiAt wl iv I) (ib : ∀ b, isB iv b → wp.heap.size ≤ b) :
    Bm wp ⟨P0, ns, rs, wl.heap.size, hm, v, t, rf, f, iv, root, main⟩ I fuel (wl.alloc (.cells #[v, .int .i64 root, .int .i64 0, .int .i64 0, t, rf, f, .int .i64 main, .int .i64 0, .int .i64 0, v, iv, .int .i64 0, .int .i64 fuel, nilS, .int .i64 0, .pointer (some ⟨hm, 0, none⟩), .int .i64 0] 95)) := by
  have kA := (Fr.refl (fun _ => False) wl).alloc (.cells #[v, .int .i64 root, .int .i64 0, .int .i64 0, t, rf, f, .int .i64 main, .int .i64 0, .int .i64 0, v, iv, .int .i64 0, .int .i64 fuel, nilS, .int .i64 0, .pointer (some ⟨hm, 0, none⟩), .int .i64 0] 95)
  refine ⟨k.trans kA (fun _ _ h => h), Blk.new wl _ _ _ (fun o ho => ?_), hi.frame kA (fun _ _ h => h), fun b hb => ⟨ib b hb, fun e => ?_⟩, k.size⟩
  · have ho : o < 18 := ho
    obtain rfl | rfl | rfl | rfl | rfl | rfl | rfl | rfl | rfl | rfl | rfl | rfl | rfl | rfl | rfl | rfl | rfl | rfl : o = 0 ∨ o = 1 ∨ o = 2 ∨ o = 3 ∨ o = 4 ∨ o = 5 ∨ o = 6 ∨ o = 7 ∨ o = 8 ∨ o = 9 ∨ o = 10 ∨ o = 11 ∨ o = 12 ∨ o = 13 ∨ o = 14 ∨ o = 15 ∨ o = 16 ∨ o = 17 := by omega
    all_goals rfl
  · have := hi.bk hb
    have e : b = wl.heap.size := e
    omega
theorem blk10 (w : World) (a0 a1 a2 a3 a4 a5 a6 a7 a8 a9 : Value) : Blk (w.alloc (.cells #[a0, a1, a2, a3, a4, a5, a6, a7, a8, a9] 69)) w.heap.size 10 (c10 a0 a1 a2 a3 a4 a5 a6 a7 a8 a9) :=
  Blk.new w _ _ _ fun o ho => by
    have ho : o < 10 := ho
    rcases lt10 ho with rfl | rfl | rfl | rfl | rfl | rfl | rfl | rfl | rfl | rfl <;> rfl
/-- What invoke leaves, in one. -/
theorem inv_end {G : Gmx} {w w' : World} {Q : Nat → Prop} {m : Nat} {fuel v : Int} {d r : Nat} (h : Fat G w Q w' (s00 fuel) d r (bodyI G.P0 (.inv m []) (s00 fuel)) v) : ∃ S en, Mm G w Q w' S en ∧ S.M.rt.length ≤ 24 ∧ S.out.length ≤ 1024 ∧ ((en = 0 ∧ MEnd G.P0 m fuel 21 v S.fuel S.out) ∨ (en ≠ 0 ∧ MEnd G.P0 m fuel en 0 S.fuel S.out)) := by
  rcases h with ⟨t, h1, h2, h3, h4, h5⟩ | ⟨en, t, s', h1, h2, h3, h4, h5, h6, h7⟩
  · exact ⟨t, 0, h2, h3.r24, h3.ou, .inl ⟨rfl, .inl ⟨rfl, t, h1, rfl, rfl⟩⟩⟩
  · exact ⟨s', en, h3, h6, h7, .inr ⟨h2, .inr ⟨h2, rfl, t, h1, h4, h5⟩⟩⟩
section
variable {w : World} {e : Nat} {R : Nat → Prop} {src : ByteArray} {I : List Int} {fuel : Int} {yv : Value}
set_option maxRecDepth 100000 in
set_option maxHeartbeats 8000000 in
theorem runMg_go (H : MReal w e R) (hy : KiAt w yv I) (hyd : ∀ b, isB yv b → ¬ R b) (hs : src.size ≤ 4096) (hI : I.length ≤ 128) (hf : fuel ≤ 9223372036854775807) (hf0 : -9223372036854775808 ≤ fuel) : Calls Tryz.prog 19 #[.pointer (some ⟨e, 0, none⟩), .string src, yv, .int .i64 fuel] w (MRunR w e R src I fuel) := by
  have z1 : decide ((src.size : Int) > 4096) = false := decide_eq_false (by omega)
  have z2 : decide ((4096 : Int) < src.size) = false := decide_eq_false (by omega)
  have z3 : decide ((I.length : Int) > 128) = false := decide_eq_false (by omega)
  have z4 : decide ((128 : Int) < I.length) = false := decide_eq_false (by omega)
  obtain ⟨cm, q, hm, M, O, E, hR, hRl⟩ := H
  obtain ⟨ya, yc, eyv, _⟩ := hy.sl
  have k0 := (Fr.refl (fun _ => False) w).alloc box6
  have hB := box6_blk w
  have E0 := E.frame k0 fun _ _ => id
  have hsz : (w.alloc box6).heap.size = w.heap.size + 1 := by simp [World.size_alloc]
  have qq := checkM E0.ck src
  have hel := E0.b.lt
  have c0 : (w.alloc box6).cell? ⟨e, 0, none⟩ = some (.pointer (some ⟨cm, 0, none⟩)) := E0.b.cell (o := 0) (by omega)
  have HH : Hid (True ∧ _) := ⟨trivial, And.intro E (And.intro hR (And.intro hRl (And.intro hy (And.intro hyd (And.intro hs (And.intro hI (And.intro k0 (And.intro hB (And.intro E0 (And.intro hsz (And.intro eyv (And.intro hf hf0))))))))))))⟩
  rw [eyv]
  clear E hR hRl hy hyd hs hI k0 hB E0 hsz eyv hf hf0
  unfold box6 at qq c0 hel
  go_enter Tryz.func19, Tryz.ntmps19
  go_wp2_with fail
  refine qq.mono ?_
  rintro z w1 ⟨v, t, r, f, ns, root, ty, rf, rs, main, err, pos, rfl, F1, AM, fb, K1⟩
  clear qq c0 hel z1 z2 z3 z4
  obtain ⟨va, vk, rfl⟩ := nlv_sl AM.hv
  obtain ⟨ta, tk, rfl⟩ := ilv_sl AM.ht
  obtain ⟨ra, rk, rfl⟩ := ilv_sl AM.hr
  obtain ⟨fa, fk, rfl⟩ := flv_sl AM.hf
  unfold chkV
  obtain ⟨_, E, hR, hRl, hy, hyd, hs, hI, k0, hB, E0, hsz, eyv, hf, hf0⟩ := HH.out
  clear HH
  have hRn : ¬ R w.heap.size := fun h => by have := hRl _ h; omega
  have hB1 : Blk w1 w.heap.size 6 z6 := hB.frame F1 fun h => h
  have F01 : Fr R w w1 := (k0.mono (S' := R) fun _ _ h => h.elim).trans F1 fun b _ h => h.elim
  have hl0 : ∀ b, MAll e cm q O b → b < w.heap.size := fun b hb => hRl b (hR b hb)
  have E1 := E0.frame F1 fun _ _ => id
  have sz1 := F1.size
  have b0 := hB1.cell (o := 0) (by omega)
  have b1 := hB1.cell (o := 1) (by omega)
  have b2 := hB1.cell (o := 2) (by omega)
  have b3 := hB1.cell (o := 3) (by omega)
  have b4 := hB1.cell (o := 4) (by omega)
  have b5 := hB1.cell (o := 5) (by omega)
  simp only [z6] at b0 b1 b2 b3 b4 b5
  have hzB := hB1.frozen
  have hlb := hB1.lt
  have ne5 : w.heap.size ≠ w1.heap.size := by omega
  by_cases he : err = 0
  · subst he
    obtain ⟨X, s, m, hA, hK, rfl, rfl, rfl, rfl, rfl, rfl, rfl⟩ := K1.ok
    have hOk : GOk src X s m := ⟨hA, hK⟩
    clear K1 hA hK
    obtain ⟨root, hroot⟩ : ∃ x, x = hdF 0 (treeOf src) := ⟨_, rfl⟩
    obtain ⟨vn, hvn⟩ : ∃ x, x = (flFs 0 (treeOf src)).length := ⟨_, rfl⟩
    obtain ⟨tn, htn⟩ : ∃ x, x = s.ty.length := ⟨_, rfl⟩
    obtain ⟨rn, hrn⟩ : ∃ x, x = s.rf.length := ⟨_, rfl⟩
    obtain ⟨fn, hfn⟩ : ∃ x, x = (X.fs.zip s.lim).length := ⟨_, rfl⟩
    rw [← hroot, ← hvn, ← htn, ← hrn, ← hfn]
    rw [← hvn, ← htn, ← hrn, ← hfn] at AM fb
    clear hvn htn hrn hfn hroot
    have hab : ∀ b, inB4 (.slice va vn vk) (.slice ta tn tk) (.slice ra rn rk) (.slice fa fn fk) b → w.heap.size < b ∧ b < w1.heap.size := fun b hb => ⟨by have h1 : (w.alloc box6).heap.size ≤ b := fb b hb; omega, AM.lt hb⟩
    have kb := (Fr.refl (fun _ => False) w1).alloc (.cells #[.slice va vn vk, .int .i64 root, .int .i64 0, .int .i64 0, .slice ta tn tk, .slice ra rn rk, .slice fa fn fk, .int .i64 (m : Nat), .int .i64 0, .int .i64 0] 69)
    have Bc2 := blk10 w1 (.slice va vn vk) (.int .i64 root) (.int .i64 0) (.int .i64 0) (.slice ta tn tk) (.slice ra rn rk) (.slice fa fn fk) (.int .i64 (m : Nat)) (.int .i64 0) (.int .i64 0)
    have E2 := E1.frame kb fun _ _ => id
    have hD := depthMF E2.hp
    have hP := popMF E2.hp E2.r24 (M.rt.length : Nat)
    have hpz : (popM M (M.rt.length : Nat)).2 = ⟨[], []⟩ := by unfold popM; rw [if_neg (by omega), if_pos rfl]
    rw [hpz] at hP
    generalize (popM M (M.rt.length : Nat)).1 = pe at hP
    have c1 : (w1.alloc (.cells #[.slice va vn vk, .int .i64 root, .int .i64 0, .int .i64 0, .slice ta tn tk, .slice ra rn rk, .slice fa fn fk, .int .i64 (m : Nat), .int .i64 0, .int .i64 0] 69)).cell? ⟨e, 1, none⟩ = some (.pointer (some ⟨hm, 0, none⟩)) := E2.b.cell (o := 1) (by omega)
    have hel := E2.b.lt
    have r24 := E2.r24
    obtain ⟨d, hd⟩ : ∃ d, d = M.rt.length := ⟨_, rfl⟩
    rw [← hd] at hD hP r24
    have HX : Hid (True ∧ _) := ⟨trivial, And.intro hRn (And.intro hB1 (And.intro F01 (And.intro hl0 (And.intro E1 (And.intro AM (And.intro hab (And.intro hOk (And.intro kb (And.intro Bc2 (And.intro E2 (And.intro hR (And.intro hRl (And.intro hy (And.intro hyd (And.intro hs (And.intro hI (And.intro eyv (And.intro hf hf0))))))))))))))))))⟩
    clear hRn hB1 F01 hl0 E1 AM fb hab hOk kb Bc2 E2 hR hRl hy hyd hs hI eyv hf hf0 hd hpz E k0 hB E0 F1 hsz b0 b1 b2 b3 b4 b5 hzB
    go_wp2_with fail
    refine hD.mono ?_
    rintro z w3 ⟨rfl, rfl⟩
    clear hD
    go_wp2_with fail
    refine hP.mono ?_
    rintro z w5 ⟨rfl, M5, F5⟩
    clear hP c1 hel
    obtain ⟨_, hRn, hB1, F01, hl0, E1, AM, hab, hOk, kb, Bc2, E2, hR, hRl, hy, hyd, hs, hI, eyv, hf, hf0⟩ := HX.out
    clear HX
    obtain ⟨w2, hw2⟩ : ∃ w2, w2 = w1.alloc (.cells #[.slice va vn vk, .int .i64 root, .int .i64 0, .int .i64 0, .slice ta tn tk, .slice ra rn rk, .slice fa fn fk, .int .i64 (m : Nat), .int .i64 0, .int .i64 0] 69) := ⟨_, rfl⟩
    rw [← hw2] at kb Bc2 E2 M5 F5
    clear hw2
    obtain ⟨cb, hcb⟩ : ∃ cb, cb = w1.heap.size := ⟨_, rfl⟩
    rw [← hcb] at Bc2
    rw [← hcb]
    have hOR : ∀ b, O b → R b := fun b hb => hR b (.inr (.inr (.inr hb)))
    have hOl : ∀ b, O b → b < w.heap.size := fun b hb => hl0 b (.inr (.inr (.inr hb)))
    have s1 := F01.size
    have s2 := kb.size
    have s5 := F5.size
    have hcbn : ¬ O cb := fun h => by have := hOl _ h; omega
    have Bc : Blk w5 cb 10 _ := Bc2.frame F5 hcbn
    have Be : Blk w5 e 2 _ := E2.b.frame F5 E2.oe
    have B5 : Blk w5 w.heap.size 6 z6 := (hB1.frame kb fun h => h).frame F5 fun h => by have := hOl _ h; omega
    have F05 : Fr R w w5 := (F01.trans kb fun _ _ h => h.elim).trans F5 fun b _ h => hOR b h
    have AM5 := (AM.frame kb fun _ _ => id).frame F5 fun b hb h => by have := (hab b hb).1; have := hOl _ h; omega
    have ck5 := E2.ck.frame F5 E2.om E2.oq
    have hy5 := hy.frame F05 hyd
    rw [eyv] at hy5
    have hyF : ∀ w0, Fr (fun _ => False) w5 w0 → KiAt w0 (.slice ya I.length yc) I := fun w0 k => hy5.frame k (fun _ _ h => h)
    have HY : Hid (True ∧ _) := ⟨trivial, And.intro M5 (And.intro B5 (And.intro F05 (And.intro AM5 (And.intro ck5 (And.intro s1 (And.intro s2 (And.intro s5 (And.intro hRn (And.intro hOk (And.intro hOl (And.intro hR (And.intro hRl (And.intro hs (And.intro hf (And.intro hf0 (And.intro E2 (And.intro hab (And.intro hcb (And.intro Bc Be)))))))))))))))))))⟩
    clear M5 B5 F05 AM5 ck5 s1 s2 s5 hRn hOk hOl hR hRl hs hf hf0 E2 hab hcb hy5 hy hyd eyv hcbn hOR F5 E1 AM kb Bc2 hl0 hB1 F01
    go_upto_region 10 with fail
    go_cut [11] from 14 (fun s11 wx => ∃ rb iv, s11 = .pointer (some ⟨rb, 0, none⟩) ∧ Bm w5 ⟨mkP X s (treeOf src) I, flFs 0 (treeOf src), X.fs.zip s.lim, rb, hm, .slice va vn vk, .slice ta tn tk, .slice ra rn rk, .slice fa fn fk, iv, root, (m : Nat)⟩ I fuel wx)
    case first =>
      refine wp_region_four [1, 2, 4, 6, 7, 8, 9] 0 (.fork3 3 (.fork 10 (.run [5, 11, 12, 13] .fin) 5 (.run [10, 11, 12, 13] .fin)) 10 (.fork 3 (.run [5, 11, 12, 13] .fin) 5 (.run [3, 11, 12, 13] .fin)) 5 (.run [3, 10, 11, 12, 13] .fin)) 3 (.fork3 0 (.fork 10 (.run [5, 11, 12, 13] .fin) 5 (.run [10, 11, 12, 13] .fin)) 10 (.fork 0 (.run [5, 11, 12, 13] .fin) 5 (.run [0, 11, 12, 13] .fin)) 5 (.run [0, 10, 11, 12, 13] .fin)) 10 (.fork3 0 (.fork 3 (.run [5, 11, 12, 13] .fin) 5 (.run [3, 11, 12, 13] .fin)) 3 (.fork 0 (.run [5, 11, 12, 13] .fin) 5 (.run [0, 11, 12, 13] .fin)) 5 (.run [0, 3, 11, 12, 13] .fin)) 5 (.run [0, 3, 10, 11, 12, 13] .fin) (by kernel_rfl) (by kernel_rfl) ?_
      simp only [wpTL, pick, List.filterMap_cons, List.filterMap_nil, List.getElem?_cons_zero, List.getElem?_cons_succ]
      obtain ⟨wd, hwd⟩ : ∃ wd, wd = w5.drew := ⟨_, rfl⟩
      have kd : Fr (fun _ => False) w5 wd := by rw [hwd]; exact (Fr.refl (fun _ => False) w5).drew
      rw [← hwd]
      clear hwd
      have bc := Bc.frame kd fun h => h
      have x0 := bc.cell (o := 0) (by omega)
      have x1 := bc.cell (o := 1) (by omega)
      have x2 := bc.cell (o := 2) (by omega)
      have x3 := bc.cell (o := 3) (by omega)
      have x4 := bc.cell (o := 4) (by omega)
      have x5 := bc.cell (o := 5) (by omega)
      have x6 := bc.cell (o := 6) (by omega)
      have x7 := bc.cell (o := 7) (by omega)
      have x8 := bc.cell (o := 8) (by omega)
      have x9 := bc.cell (o := 9) (by omega)
      simp only [c10] at x0 x1 x2 x3 x4 x5 x6 x7 x8 x9
      have xl := bc.lt
      have be := Be.frame kd fun h => h
      have e1 := be.cell (o := 1) (by omega)
      simp only [me2] at e1
      have el := be.lt
      clear bc be
      go_wp2_with fail
      refine ⟨?_⟩
      refine ⟨?_, ?_, ?_, ?_⟩
      · go_wp2_with fail
        refine ⟨?_⟩
        refine ⟨?_, ?_, ?_⟩
        · go_wp2_with fail
          refine ⟨?_⟩
          refine ⟨?_, ?_⟩
          · go_wp2_with fail
            refine ⟨?_⟩
            refine wpList_appI0 (by rfl) _ _ (by rfl) nilS (.slice ya I.length yc) I (by rfl) (by rfl) (.inl ⟨rfl, rfl⟩) (hyF _ kd) (by omega) ?_
            intro iv wi hiI hbI fI
            have kI : Fr (fun _ => False) w5 wi := kd.trans (fI.mono (S' := fun _ => False) (fun b _ h => (nil_noB b h))) (fun _ _ h => h)
            obtain ⟨ia, ic, eiv, _⟩ := hiI.sl
            subst eiv
            clear x0 x1 x2 x3 x4 x5 x6 x7 x8 x9 xl e1 el fI
            have bc := Bc.frame kI fun h => h
            have x0 := bc.cell (o := 0) (by omega)
            have x1 := bc.cell (o := 1) (by omega)
            have x2 := bc.cell (o := 2) (by omega)
            have x3 := bc.cell (o := 3) (by omega)
            have x4 := bc.cell (o := 4) (by omega)
            have x5 := bc.cell (o := 5) (by omega)
            have x6 := bc.cell (o := 6) (by omega)
            have x7 := bc.cell (o := 7) (by omega)
            have x8 := bc.cell (o := 8) (by omega)
            have x9 := bc.cell (o := 9) (by omega)
            simp only [c10] at x0 x1 x2 x3 x4 x5 x6 x7 x8 x9
            have xl := bc.lt
            have be := Be.frame kI fun h => h
            have e1 := be.cell (o := 1) (by omega)
            simp only [me2] at e1
            have el := be.lt
            clear bc be
            go_wp2_with fail
            refine ⟨?_⟩
            refine ⟨by kernel_rfl, ?_⟩
            go_wp2_with fail
            go_meet
            exact ⟨_, _, rfl, Bm.mk' kI hiI fun b hb => (hbI b hb).elim (fun h => Nat.le_trans kd.size h) (fun h => absurd h (nil_noB b))⟩
          · refine wpList_appI0 (by rfl) _ _ (by rfl) nilS (.slice ya I.length yc) I (by rfl) (by rfl) (.inl ⟨rfl, rfl⟩) (hyF _ kd) (by omega) ?_
            intro iv wi hiI hbI fI
            have kI : Fr (fun _ => False) w5 wi := kd.trans (fI.mono (S' := fun _ => False) (fun b _ h => (nil_noB b h))) (fun _ _ h => h)
            obtain ⟨ia, ic, eiv, _⟩ := hiI.sl
            subst eiv
            clear x0 x1 x2 x3 x4 x5 x6 x7 x8 x9 xl e1 el fI
            have bc := Bc.frame kI fun h => h
            have x0 := bc.cell (o := 0) (by omega)
            have x1 := bc.cell (o := 1) (by omega)
            have x2 := bc.cell (o := 2) (by omega)
            have x3 := bc.cell (o := 3) (by omega)
            have x4 := bc.cell (o := 4) (by omega)
            have x5 := bc.cell (o := 5) (by omega)
            have x6 := bc.cell (o := 6) (by omega)
            have x7 := bc.cell (o := 7) (by omega)
            have x8 := bc.cell (o := 8) (by omega)
            have x9 := bc.cell (o := 9) (by omega)
            simp only [c10] at x0 x1 x2 x3 x4 x5 x6 x7 x8 x9
            have xl := bc.lt
            have be := Be.frame kI fun h => h
            have e1 := be.cell (o := 1) (by omega)
            simp only [me2] at e1
            have el := be.lt
            clear bc be
            go_wp2_with fail
            refine ⟨?_⟩
            go_wp2_with fail
            refine ⟨?_⟩
            refine ⟨by kernel_rfl, ?_⟩
            go_wp2_with fail
            go_meet
            exact ⟨_, _, rfl, Bm.mk' kI hiI fun b hb => (hbI b hb).elim (fun h => Nat.le_trans kd.size h) (fun h => absurd h (nil_noB b))⟩
        · go_wp2_with fail
          refine ⟨?_⟩
          refine ⟨?_, ?_⟩
          · go_wp2_with fail
            refine ⟨?_⟩
            refine wpList_appI0 (by rfl) _ _ (by rfl) nilS (.slice ya I.length yc) I (by rfl) (by rfl) (.inl ⟨rfl, rfl⟩) (hyF _ kd) (by omega) ?_
            intro iv wi hiI hbI fI
            have kI : Fr (fun _ => False) w5 wi := kd.trans (fI.mono (S' := fun _ => False) (fun b _ h => (nil_noB b h))) (fun _ _ h => h)
            obtain ⟨ia, ic, eiv, _⟩ := hiI.sl
            subst eiv
            clear x0 x1 x2 x3 x4 x5 x6 x7 x8 x9 xl e1 el fI
            have bc := Bc.frame kI fun h => h
            have x0 := bc.cell (o := 0) (by omega)
            have x1 := bc.cell (o := 1) (by omega)
            have x2 := bc.cell (o := 2) (by omega)
            have x3 := bc.cell (o := 3) (by omega)
            have x4 := bc.cell (o := 4) (by omega)
            have x5 := bc.cell (o := 5) (by omega)
            have x6 := bc.cell (o := 6) (by omega)
            have x7 := bc.cell (o := 7) (by omega)
            have x8 := bc.cell (o := 8) (by omega)
            have x9 := bc.cell (o := 9) (by omega)
            simp only [c10] at x0 x1 x2 x3 x4 x5 x6 x7 x8 x9
            have xl := bc.lt
            have be := Be.frame kI fun h => h
            have e1 := be.cell (o := 1) (by omega)
            simp only [me2] at e1
            have el := be.lt
            clear bc be
            go_wp2_with fail
            refine ⟨?_⟩
            refine ⟨by kernel_rfl, ?_⟩
            go_wp2_with fail
            go_meet
            exact ⟨_, _, rfl, Bm.mk' kI hiI fun b hb => (hbI b hb).elim (fun h => Nat.le_trans kd.size h) (fun h => absurd h (nil_noB b))⟩
          · refine wpList_appI0 (by rfl) _ _ (by rfl) nilS (.slice ya I.length yc) I (by rfl) (by rfl) (.inl ⟨rfl, rfl⟩) (hyF _ kd) (by omega) ?_
            intro iv wi hiI hbI fI
            have kI : Fr (fun _ => False) w5 wi := kd.trans (fI.mono (S' := fun _ => False) (fun b _ h => (nil_noB b h))) (fun _ _ h => h)
            obtain ⟨ia, ic, eiv, _⟩ := hiI.sl
            subst eiv
            clear x0 x1 x2 x3 x4 x5 x6 x7 x8 x9 xl e1 el fI
            have bc := Bc.frame kI fun h => h
            have x0 := bc.cell (o := 0) (by omega)
            have x1 := bc.cell (o := 1) (by omega)
            have x2 := bc.cell (o := 2) (by omega)
            have x3 := bc.cell (o := 3) (by omega)
            have x4 := bc.cell (o := 4) (by omega)
            have x5 := bc.cell (o := 5) (by omega)
            have x6 := bc.cell (o := 6) (by omega)
            have x7 := bc.cell (o := 7) (by omega)
            have x8 := bc.cell (o := 8) (by omega)
            have x9 := bc.cell (o := 9) (by omega)
            simp only [c10] at x0 x1 x2 x3 x4 x5 x6 x7 x8 x9
            have xl := bc.lt
            have be := Be.frame kI fun h => h
            have e1 := be.cell (o := 1) (by omega)
            simp only [me2] at e1
            have el := be.lt
            clear bc be
            go_wp2_with fail
            refine ⟨?_⟩
            go_wp2_with fail
            refine ⟨?_⟩
            refine ⟨by kernel_rfl, ?_⟩
            go_wp2_with fail
            go_meet
            exact ⟨_, _, rfl, Bm.mk' kI hiI fun b hb => (hbI b hb).elim (fun h => Nat.le_trans kd.size h) (fun h => absurd h (nil_noB b))⟩
        · refine wpList_appI0 (by rfl) _ _ (by rfl) nilS (.slice ya I.length yc) I (by rfl) (by rfl) (.inl ⟨rfl, rfl⟩) (hyF _ kd) (by omega) ?_
          intro iv wi hiI hbI fI
          have kI : Fr (fun _ => False) w5 wi := kd.trans (fI.mono (S' := fun _ => False) (fun b _ h => (nil_noB b h))) (fun _ _ h => h)
          obtain ⟨ia, ic, eiv, _⟩ := hiI.sl
          subst eiv
          clear x0 x1 x2 x3 x4 x5 x6 x7 x8 x9 xl e1 el fI
          have bc := Bc.frame kI fun h => h
          have x0 := bc.cell (o := 0) (by omega)
          have x1 := bc.cell (o := 1) (by omega)
          have x2 := bc.cell (o := 2) (by omega)
          have x3 := bc.cell (o := 3) (by omega)
          have x4 := bc.cell (o := 4) (by omega)
          have x5 := bc.cell (o := 5) (by omega)
          have x6 := bc.cell (o := 6) (by omega)
          have x7 := bc.cell (o := 7) (by omega)
          have x8 := bc.cell (o := 8) (by omega)
          have x9 := bc.cell (o := 9) (by omega)
          simp only [c10] at x0 x1 x2 x3 x4 x5 x6 x7 x8 x9
          have xl := bc.lt
          have be := Be.frame kI fun h => h
          have e1 := be.cell (o := 1) (by omega)
          simp only [me2] at e1
          have el := be.lt
          clear bc be
          go_wp2_with fail
          refine ⟨?_⟩
          go_wp2_with fail
          refine ⟨?_⟩
          refine ⟨by kernel_rfl, ?_⟩
          go_wp2_with fail
          go_meet
          exact ⟨_, _, rfl, Bm.mk' kI hiI fun b hb => (hbI b hb).elim (fun h => Nat.le_trans kd.size h) (fun h => absurd h (nil_noB b))⟩
      · go_wp2_with fail
        refine ⟨?_⟩
        refine ⟨?_, ?_, ?_⟩
        · go_wp2_with fail
          refine ⟨?_⟩
          refine ⟨?_, ?_⟩
          · go_wp2_with fail
            refine ⟨?_⟩
            refine wpList_appI0 (by rfl) _ _ (by rfl) nilS (.slice ya I.length yc) I (by rfl) (by rfl) (.inl ⟨rfl, rfl⟩) (hyF _ kd) (by omega) ?_
            intro iv wi hiI hbI fI
            have kI : Fr (fun _ => False) w5 wi := kd.trans (fI.mono (S' := fun _ => False) (fun b _ h => (nil_noB b h))) (fun _ _ h => h)
            obtain ⟨ia, ic, eiv, _⟩ := hiI.sl
            subst eiv
            clear x0 x1 x2 x3 x4 x5 x6 x7 x8 x9 xl e1 el fI
            have bc := Bc.frame kI fun h => h
            have x0 := bc.cell (o := 0) (by omega)
            have x1 := bc.cell (o := 1) (by omega)
            have x2 := bc.cell (o := 2) (by omega)
            have x3 := bc.cell (o := 3) (by omega)
            have x4 := bc.cell (o := 4) (by omega)
            have x5 := bc.cell (o := 5) (by omega)
            have x6 := bc.cell (o := 6) (by omega)
            have x7 := bc.cell (o := 7) (by omega)
            have x8 := bc.cell (o := 8) (by omega)
            have x9 := bc.cell (o := 9) (by omega)
            simp only [c10] at x0 x1 x2 x3 x4 x5 x6 x7 x8 x9
            have xl := bc.lt
            have be := Be.frame kI fun h => h
            have e1 := be.cell (o := 1) (by omega)
            simp only [me2] at e1
            have el := be.lt
            clear bc be
            go_wp2_with fail
            refine ⟨?_⟩
            refine ⟨by kernel_rfl, ?_⟩
            go_wp2_with fail
            go_meet
            exact ⟨_, _, rfl, Bm.mk' kI hiI fun b hb => (hbI b hb).elim (fun h => Nat.le_trans kd.size h) (fun h => absurd h (nil_noB b))⟩
          · refine wpList_appI0 (by rfl) _ _ (by rfl) nilS (.slice ya I.length yc) I (by rfl) (by rfl) (.inl ⟨rfl, rfl⟩) (hyF _ kd) (by omega) ?_
            intro iv wi hiI hbI fI
            have kI : Fr (fun _ => False) w5 wi := kd.trans (fI.mono (S' := fun _ => False) (fun b _ h => (nil_noB b h))) (fun _ _ h => h)
            obtain ⟨ia, ic, eiv, _⟩ := hiI.sl
            subst eiv
            clear x0 x1 x2 x3 x4 x5 x6 x7 x8 x9 xl e1 el fI
            have bc := Bc.frame kI fun h => h
            have x0 := bc.cell (o := 0) (by omega)
            have x1 := bc.cell (o := 1) (by omega)
            have x2 := bc.cell (o := 2) (by omega)
            have x3 := bc.cell (o := 3) (by omega)
            have x4 := bc.cell (o := 4) (by omega)
            have x5 := bc.cell (o := 5) (by omega)
            have x6 := bc.cell (o := 6) (by omega)
            have x7 := bc.cell (o := 7) (by omega)
            have x8 := bc.cell (o := 8) (by omega)
            have x9 := bc.cell (o := 9) (by omega)
            simp only [c10] at x0 x1 x2 x3 x4 x5 x6 x7 x8 x9
            have xl := bc.lt
            have be := Be.frame kI fun h => h
            have e1 := be.cell (o := 1) (by omega)
            simp only [me2] at e1
            have el := be.lt
            clear bc be
            go_wp2_with fail
            refine ⟨?_⟩
            go_wp2_with fail
            refine ⟨?_⟩
            refine ⟨by kernel_rfl, ?_⟩
            go_wp2_with fail
            go_meet
            exact ⟨_, _, rfl, Bm.mk' kI hiI fun b hb => (hbI b hb).elim (fun h => Nat.le_trans kd.size h) (fun h => absurd h (nil_noB b))⟩
        · go_wp2_with fail
          refine ⟨?_⟩
          refine ⟨?_, ?_⟩
          · go_wp2_with fail
            refine ⟨?_⟩
            refine wpList_appI0 (by rfl) _ _ (by rfl) nilS (.slice ya I.length yc) I (by rfl) (by rfl) (.inl ⟨rfl, rfl⟩) (hyF _ kd) (by omega) ?_
            intro iv wi hiI hbI fI
            have kI : Fr (fun _ => False) w5 wi := kd.trans (fI.mono (S' := fun _ => False) (fun b _ h => (nil_noB b h))) (fun _ _ h => h)
            obtain ⟨ia, ic, eiv, _⟩ := hiI.sl
            subst eiv
            clear x0 x1 x2 x3 x4 x5 x6 x7 x8 x9 xl e1 el fI
            have bc := Bc.frame kI fun h => h
            have x0 := bc.cell (o := 0) (by omega)
            have x1 := bc.cell (o := 1) (by omega)
            have x2 := bc.cell (o := 2) (by omega)
            have x3 := bc.cell (o := 3) (by omega)
            have x4 := bc.cell (o := 4) (by omega)
            have x5 := bc.cell (o := 5) (by omega)
            have x6 := bc.cell (o := 6) (by omega)
            have x7 := bc.cell (o := 7) (by omega)
            have x8 := bc.cell (o := 8) (by omega)
            have x9 := bc.cell (o := 9) (by omega)
            simp only [c10] at x0 x1 x2 x3 x4 x5 x6 x7 x8 x9
            have xl := bc.lt
            have be := Be.frame kI fun h => h
            have e1 := be.cell (o := 1) (by omega)
            simp only [me2] at e1
            have el := be.lt
            clear bc be
            go_wp2_with fail
            refine ⟨?_⟩
            refine ⟨by kernel_rfl, ?_⟩
            go_wp2_with fail
            go_meet
            exact ⟨_, _, rfl, Bm.mk' kI hiI fun b hb => (hbI b hb).elim (fun h => Nat.le_trans kd.size h) (fun h => absurd h (nil_noB b))⟩
          · refine wpList_appI0 (by rfl) _ _ (by rfl) nilS (.slice ya I.length yc) I (by rfl) (by rfl) (.inl ⟨rfl, rfl⟩) (hyF _ kd) (by omega) ?_
            intro iv wi hiI hbI fI
            have kI : Fr (fun _ => False) w5 wi := kd.trans (fI.mono (S' := fun _ => False) (fun b _ h => (nil_noB b h))) (fun _ _ h => h)
            obtain ⟨ia, ic, eiv, _⟩ := hiI.sl
            subst eiv
            clear x0 x1 x2 x3 x4 x5 x6 x7 x8 x9 xl e1 el fI
            have bc := Bc.frame kI fun h => h
            have x0 := bc.cell (o := 0) (by omega)
            have x1 := bc.cell (o := 1) (by omega)
            have x2 := bc.cell (o := 2) (by omega)
            have x3 := bc.cell (o := 3) (by omega)
            have x4 := bc.cell (o := 4) (by omega)
            have x5 := bc.cell (o := 5) (by omega)
            have x6 := bc.cell (o := 6) (by omega)
            have x7 := bc.cell (o := 7) (by omega)
            have x8 := bc.cell (o := 8) (by omega)
            have x9 := bc.cell (o := 9) (by omega)
            simp only [c10] at x0 x1 x2 x3 x4 x5 x6 x7 x8 x9
            have xl := bc.lt
            have be := Be.frame kI fun h => h
            have e1 := be.cell (o := 1) (by omega)
            simp only [me2] at e1
            have el := be.lt
            clear bc be
            go_wp2_with fail
            refine ⟨?_⟩
            go_wp2_with fail
            refine ⟨?_⟩
            refine ⟨by kernel_rfl, ?_⟩
            go_wp2_with fail
            go_meet
            exact ⟨_, _, rfl, Bm.mk' kI hiI fun b hb => (hbI b hb).elim (fun h => Nat.le_trans kd.size h) (fun h => absurd h (nil_noB b))⟩
        · refine wpList_appI0 (by rfl) _ _ (by rfl) nilS (.slice ya I.length yc) I (by rfl) (by rfl) (.inl ⟨rfl, rfl⟩) (hyF _ kd) (by omega) ?_
          intro iv wi hiI hbI fI
          have kI : Fr (fun _ => False) w5 wi := kd.trans (fI.mono (S' := fun _ => False) (fun b _ h => (nil_noB b h))) (fun _ _ h => h)
          obtain ⟨ia, ic, eiv, _⟩ := hiI.sl
          subst eiv
          clear x0 x1 x2 x3 x4 x5 x6 x7 x8 x9 xl e1 el fI
          have bc := Bc.frame kI fun h => h
          have x0 := bc.cell (o := 0) (by omega)
          have x1 := bc.cell (o := 1) (by omega)
          have x2 := bc.cell (o := 2) (by omega)
          have x3 := bc.cell (o := 3) (by omega)
          have x4 := bc.cell (o := 4) (by omega)
          have x5 := bc.cell (o := 5) (by omega)
          have x6 := bc.cell (o := 6) (by omega)
          have x7 := bc.cell (o := 7) (by omega)
          have x8 := bc.cell (o := 8) (by omega)
          have x9 := bc.cell (o := 9) (by omega)
          simp only [c10] at x0 x1 x2 x3 x4 x5 x6 x7 x8 x9
          have xl := bc.lt
          have be := Be.frame kI fun h => h
          have e1 := be.cell (o := 1) (by omega)
          simp only [me2] at e1
          have el := be.lt
          clear bc be
          go_wp2_with fail
          refine ⟨?_⟩
          go_wp2_with fail
          refine ⟨?_⟩
          refine ⟨by kernel_rfl, ?_⟩
          go_wp2_with fail
          go_meet
          exact ⟨_, _, rfl, Bm.mk' kI hiI fun b hb => (hbI b hb).elim (fun h => Nat.le_trans kd.size h) (fun h => absurd h (nil_noB b))⟩
      · go_wp2_with fail
        refine ⟨?_⟩
        refine ⟨?_, ?_, ?_⟩
        · go_wp2_with fail
          refine ⟨?_⟩
          refine ⟨?_, ?_⟩
          · go_wp2_with fail
            refine ⟨?_⟩
            refine wpList_appI0 (by rfl) _ _ (by rfl) nilS (.slice ya I.length yc) I (by rfl) (by rfl) (.inl ⟨rfl, rfl⟩) (hyF _ kd) (by omega) ?_
            intro iv wi hiI hbI fI
            have kI : Fr (fun _ => False) w5 wi := kd.trans (fI.mono (S' := fun _ => False) (fun b _ h => (nil_noB b h))) (fun _ _ h => h)
            obtain ⟨ia, ic, eiv, _⟩ := hiI.sl
            subst eiv
            clear x0 x1 x2 x3 x4 x5 x6 x7 x8 x9 xl e1 el fI
            have bc := Bc.frame kI fun h => h
            have x0 := bc.cell (o := 0) (by omega)
            have x1 := bc.cell (o := 1) (by omega)
            have x2 := bc.cell (o := 2) (by omega)
            have x3 := bc.cell (o := 3) (by omega)
            have x4 := bc.cell (o := 4) (by omega)
            have x5 := bc.cell (o := 5) (by omega)
            have x6 := bc.cell (o := 6) (by omega)
            have x7 := bc.cell (o := 7) (by omega)
            have x8 := bc.cell (o := 8) (by omega)
            have x9 := bc.cell (o := 9) (by omega)
            simp only [c10] at x0 x1 x2 x3 x4 x5 x6 x7 x8 x9
            have xl := bc.lt
            have be := Be.frame kI fun h => h
            have e1 := be.cell (o := 1) (by omega)
            simp only [me2] at e1
            have el := be.lt
            clear bc be
            go_wp2_with fail
            refine ⟨?_⟩
            refine ⟨by kernel_rfl, ?_⟩
            go_wp2_with fail
            go_meet
            exact ⟨_, _, rfl, Bm.mk' kI hiI fun b hb => (hbI b hb).elim (fun h => Nat.le_trans kd.size h) (fun h => absurd h (nil_noB b))⟩
          · refine wpList_appI0 (by rfl) _ _ (by rfl) nilS (.slice ya I.length yc) I (by rfl) (by rfl) (.inl ⟨rfl, rfl⟩) (hyF _ kd) (by omega) ?_
            intro iv wi hiI hbI fI
            have kI : Fr (fun _ => False) w5 wi := kd.trans (fI.mono (S' := fun _ => False) (fun b _ h => (nil_noB b h))) (fun _ _ h => h)
            obtain ⟨ia, ic, eiv, _⟩ := hiI.sl
            subst eiv
            clear x0 x1 x2 x3 x4 x5 x6 x7 x8 x9 xl e1 el fI
            have bc := Bc.frame kI fun h => h
            have x0 := bc.cell (o := 0) (by omega)
            have x1 := bc.cell (o := 1) (by omega)
            have x2 := bc.cell (o := 2) (by omega)
            have x3 := bc.cell (o := 3) (by omega)
            have x4 := bc.cell (o := 4) (by omega)
            have x5 := bc.cell (o := 5) (by omega)
            have x6 := bc.cell (o := 6) (by omega)
            have x7 := bc.cell (o := 7) (by omega)
            have x8 := bc.cell (o := 8) (by omega)
            have x9 := bc.cell (o := 9) (by omega)
            simp only [c10] at x0 x1 x2 x3 x4 x5 x6 x7 x8 x9
            have xl := bc.lt
            have be := Be.frame kI fun h => h
            have e1 := be.cell (o := 1) (by omega)
            simp only [me2] at e1
            have el := be.lt
            clear bc be
            go_wp2_with fail
            refine ⟨?_⟩
            go_wp2_with fail
            refine ⟨?_⟩
            refine ⟨by kernel_rfl, ?_⟩
            go_wp2_with fail
            go_meet
            exact ⟨_, _, rfl, Bm.mk' kI hiI fun b hb => (hbI b hb).elim (fun h => Nat.le_trans kd.size h) (fun h => absurd h (nil_noB b))⟩
        · go_wp2_with fail
          refine ⟨?_⟩
          refine ⟨?_, ?_⟩
          · go_wp2_with fail
            refine ⟨?_⟩
            refine wpList_appI0 (by rfl) _ _ (by rfl) nilS (.slice ya I.length yc) I (by rfl) (by rfl) (.inl ⟨rfl, rfl⟩) (hyF _ kd) (by omega) ?_
            intro iv wi hiI hbI fI
            have kI : Fr (fun _ => False) w5 wi := kd.trans (fI.mono (S' := fun _ => False) (fun b _ h => (nil_noB b h))) (fun _ _ h => h)
            obtain ⟨ia, ic, eiv, _⟩ := hiI.sl
            subst eiv
            clear x0 x1 x2 x3 x4 x5 x6 x7 x8 x9 xl e1 el fI
            have bc := Bc.frame kI fun h => h
            have x0 := bc.cell (o := 0) (by omega)
            have x1 := bc.cell (o := 1) (by omega)
            have x2 := bc.cell (o := 2) (by omega)
            have x3 := bc.cell (o := 3) (by omega)
            have x4 := bc.cell (o := 4) (by omega)
            have x5 := bc.cell (o := 5) (by omega)
            have x6 := bc.cell (o := 6) (by omega)
            have x7 := bc.cell (o := 7) (by omega)
            have x8 := bc.cell (o := 8) (by omega)
            have x9 := bc.cell (o := 9) (by omega)
            simp only [c10] at x0 x1 x2 x3 x4 x5 x6 x7 x8 x9
            have xl := bc.lt
            have be := Be.frame kI fun h => h
            have e1 := be.cell (o := 1) (by omega)
            simp only [me2] at e1
            have el := be.lt
            clear bc be
            go_wp2_with fail
            refine ⟨?_⟩
            refine ⟨by kernel_rfl, ?_⟩
            go_wp2_with fail
            go_meet
            exact ⟨_, _, rfl, Bm.mk' kI hiI fun b hb => (hbI b hb).elim (fun h => Nat.le_trans kd.size h) (fun h => absurd h (nil_noB b))⟩
          · refine wpList_appI0 (by rfl) _ _ (by rfl) nilS (.slice ya I.length yc) I (by rfl) (by rfl) (.inl ⟨rfl, rfl⟩) (hyF _ kd) (by omega) ?_
            intro iv wi hiI hbI fI
            have kI : Fr (fun _ => False) w5 wi := kd.trans (fI.mono (S' := fun _ => False) (fun b _ h => (nil_noB b h))) (fun _ _ h => h)
            obtain ⟨ia, ic, eiv, _⟩ := hiI.sl
            subst eiv
            clear x0 x1 x2 x3 x4 x5 x6 x7 x8 x9 xl e1 el fI
            have bc := Bc.frame kI fun h => h
            have x0 := bc.cell (o := 0) (by omega)
            have x1 := bc.cell (o := 1) (by omega)
            have x2 := bc.cell (o := 2) (by omega)
            have x3 := bc.cell (o := 3) (by omega)
            have x4 := bc.cell (o := 4) (by omega)
            have x5 := bc.cell (o := 5) (by omega)
            have x6 := bc.cell (o := 6) (by omega)
            have x7 := bc.cell (o := 7) (by omega)
            have x8 := bc.cell (o := 8) (by omega)
            have x9 := bc.cell (o := 9) (by omega)
            simp only [c10] at x0 x1 x2 x3 x4 x5 x6 x7 x8 x9
            have xl := bc.lt
            have be := Be.frame kI fun h => h
            have e1 := be.cell (o := 1) (by omega)
            simp only [me2] at e1
            have el := be.lt
            clear bc be
            go_wp2_with fail
            refine ⟨?_⟩
            go_wp2_with fail
            refine ⟨?_⟩
            refine ⟨by kernel_rfl, ?_⟩
            go_wp2_with fail
            go_meet
            exact ⟨_, _, rfl, Bm.mk' kI hiI fun b hb => (hbI b hb).elim (fun h => Nat.le_trans kd.size h) (fun h => absurd h (nil_noB b))⟩
        · refine wpList_appI0 (by rfl) _ _ (by rfl) nilS (.slice ya I.length yc) I (by rfl) (by rfl) (.inl ⟨rfl, rfl⟩) (hyF _ kd) (by omega) ?_
          intro iv wi hiI hbI fI
          have kI : Fr (fun _ => False) w5 wi := kd.trans (fI.mono (S' := fun _ => False) (fun b _ h => (nil_noB b h))) (fun _ _ h => h)
          obtain ⟨ia, ic, eiv, _⟩ := hiI.sl
          subst eiv
          clear x0 x1 x2 x3 x4 x5 x6 x7 x8 x9 xl e1 el fI
          have bc := Bc.frame kI fun h => h
          have x0 := bc.cell (o := 0) (by omega)
          have x1 := bc.cell (o := 1) (by omega)
          have x2 := bc.cell (o := 2) (by omega)
          have x3 := bc.cell (o := 3) (by omega)
          have x4 := bc.cell (o := 4) (by omega)
          have x5 := bc.cell (o := 5) (by omega)
          have x6 := bc.cell (o := 6) (by omega)
          have x7 := bc.cell (o := 7) (by omega)
          have x8 := bc.cell (o := 8) (by omega)
          have x9 := bc.cell (o := 9) (by omega)
          simp only [c10] at x0 x1 x2 x3 x4 x5 x6 x7 x8 x9
          have xl := bc.lt
          have be := Be.frame kI fun h => h
          have e1 := be.cell (o := 1) (by omega)
          simp only [me2] at e1
          have el := be.lt
          clear bc be
          go_wp2_with fail
          refine ⟨?_⟩
          go_wp2_with fail
          refine ⟨?_⟩
          refine ⟨by kernel_rfl, ?_⟩
          go_wp2_with fail
          go_meet
          exact ⟨_, _, rfl, Bm.mk' kI hiI fun b hb => (hbI b hb).elim (fun h => Nat.le_trans kd.size h) (fun h => absurd h (nil_noB b))⟩
      · refine wpList_appI0 (by rfl) _ _ (by rfl) nilS (.slice ya I.length yc) I (by rfl) (by rfl) (.inl ⟨rfl, rfl⟩) (hyF _ kd) (by omega) ?_
        intro iv wi hiI hbI fI
        have kI : Fr (fun _ => False) w5 wi := kd.trans (fI.mono (S' := fun _ => False) (fun b _ h => (nil_noB b h))) (fun _ _ h => h)
        obtain ⟨ia, ic, eiv, _⟩ := hiI.sl
        subst eiv
        clear x0 x1 x2 x3 x4 x5 x6 x7 x8 x9 xl e1 el fI
        have bc := Bc.frame kI fun h => h
        have x0 := bc.cell (o := 0) (by omega)
        have x1 := bc.cell (o := 1) (by omega)
        have x2 := bc.cell (o := 2) (by omega)
        have x3 := bc.cell (o := 3) (by omega)
        have x4 := bc.cell (o := 4) (by omega)
        have x5 := bc.cell (o := 5) (by omega)
        have x6 := bc.cell (o := 6) (by omega)
        have x7 := bc.cell (o := 7) (by omega)
        have x8 := bc.cell (o := 8) (by omega)
        have x9 := bc.cell (o := 9) (by omega)
        simp only [c10] at x0 x1 x2 x3 x4 x5 x6 x7 x8 x9
        have xl := bc.lt
        have be := Be.frame kI fun h => h
        have e1 := be.cell (o := 1) (by omega)
        simp only [me2] at e1
        have el := be.lt
        clear bc be
        go_wp2_with fail
        refine ⟨?_⟩
        go_wp2_with fail
        refine ⟨?_⟩
        refine ⟨by kernel_rfl, ?_⟩
        go_wp2_with fail
        go_meet
        exact ⟨_, _, rfl, Bm.mk' kI hiI fun b hb => (hbI b hb).elim (fun h => Nat.le_trans kd.size h) (fun h => absurd h (nil_noB b))⟩
    case rest =>
      obtain ⟨rb, iv, rfl, HB⟩ := hcut
      obtain ⟨_, M5, B5, F05, AM5, ck5, s1, s2, s5, hRn, hOk, hOl, hR, hRl, hs, hf, hf0, E2, hab, hcb, Bc, Be⟩ := HY.out
      have sB := HB.fr.size
      have hl0 : ∀ b, MAll e cm q O b → b < w.heap.size := fun b hb => hRl b (hR b hb)
      have rs : w5.heap.size ≤ rb := HB.rs
      have KK := src_chk hOk.1 hOk.2
      have PO := KK.ok I
      have K : Gmx.Ok (⟨mkP X s (treeOf src) I, flFs 0 (treeOf src), X.fs.zip s.lim, rb, hm, .slice va vn vk, .slice ta tn tk, .slice ra rn rk, .slice fa fn fk, iv, root, (m : Nat)⟩ : Gmx) := ⟨KK.tl, KK.rl, ⟨fun _ => nilS, 0, m, KK.cm I _ _⟩, ⟨_, _, m, PO⟩⟩
      have w2l : w.heap.size < w2.heap.size := by have h2 := Bc.lt; omega
      have H0 : RM wc (⟨mkP X s (treeOf src) I, flFs 0 (treeOf src), X.fs.zip s.lim, rb, hm, .slice va vn vk, .slice ta tn tk, .slice ra rn rk, .slice fa fn fk, iv, root, (m : Nat)⟩ : Gmx) (s00 fuel) 0 (fun b => b = rb ∨ Gw O w2 w5 b) := by
        refine ⟨nilS, Gw O w2 w5, HB.blk, .inl ⟨rfl, rfl⟩, M5.frame HB.fr fun _ _ => id, .inl rfl, fun b hb => ⟨.inr hb, fun h => ?_⟩, fun b hb => absurd hb (nil_noB b), fun b hb => ?_, AM5.frame HB.fr fun _ _ => id, HB.inp, fun b hb => ?_⟩
        · have h : b = rb := h
          rcases hb with hb | hb
          · have := hOl b hb; omega
          · have := hb.2; omega
        · rcases hb with hb | hb | hb
          · rw [hb]; exact HB.blk.lt
          · have := hOl b hb; omega
          · have := hb.2; omega
        · rcases hb with hb | hb
          · have hb : inB4 (.slice va vn vk) (.slice ta tn tk) (.slice ra rn rk) (.slice fa fn fk) b := hb
            have h1 := hab b hb
            refine ⟨fun h => ?_, by omega⟩
            rcases h with h | h | h
            · omega
            · have := hOl b h; omega
            · have := h.1; omega
          · have h1 := HB.ib b hb
            refine ⟨fun h => ?_, HB.inp.bk hb⟩
            rcases h with h | h | h
            · exact h1.2 h
            · have := hOl b h; omega
            · have := h.2; have := h1.1; omega
      have S0 : SB (⟨mkP X s (treeOf src) I, flFs 0 (treeOf src), X.fs.zip s.lim, rb, hm, .slice va vn vk, .slice ta tn tk, .slice ra rn rk, .slice fa fn fk, iv, root, (m : Nat)⟩ : Gmx) (s00 fuel) := ⟨Int.le_refl _, by show (0 : Int) ≤ 48; omega, Nat.zero_le _, MInv.nil, Nat.zero_le _, hf, hf0, Nat.zero_le _, hI⟩
      have qI : Calls Tryz.prog 39 #[.pointer (some ⟨rb, 0, none⟩), .int .i64 (m : Nat), .slice none 0 0] wc (EvR (⟨mkP X s (treeOf src) I, flFs 0 (treeOf src), X.fs.zip s.lim, rb, hm, .slice va vn vk, .slice ta tn tk, .slice ra rn rk, .slice fa fn fk, iv, root, (m : Nat)⟩ : Gmx) wc (fun b => b = rb ∨ Gw O w2 w5 b) (s00 fuel) (fiA (mkP X s (treeOf src) I) m).ret (bodyI (mkP X s (treeOf src) I) (.inv m []) (s00 fuel))) :=
        invAll K fuel wc _ (s00 fuel) (s00 fuel) m nilS [] H0 S0 S0 (Int.le_refl _) (.inl ⟨rfl, rfl⟩) (fun b hb => absurd hb (nil_noB b)) PO.mn (by rw [PO.pi]; rfl) (by rw [PO.pi, PO.pr]; exact Rl.refl _) rfl
      have bcx := Bc.frame HB.fr fun h => h
      have x7 := bcx.cell (o := 7) (by omega)
      simp only [c10] at x7
      have xl := bcx.lt
      have HZ : Hid (True ∧ _) := ⟨trivial, And.intro B5 (And.intro F05 (And.intro ck5 (And.intro hRn (And.intro hOk (And.intro hOl (And.intro hR (And.intro hs (And.intro hI (And.intro HB (And.intro Be (And.intro E2 (And.intro hl0 (And.intro s5 (And.intro s2 s1))))))))))))))⟩
      clear B5 F05 ck5 hRn hOk hOl hR hs HB Be E2 hl0 M5 AM5 hab hRl hf hf0 hcb Bc KK PO K H0 S0 bcx s5 s2 s1
      go_wp2_with fail
      refine qI.mono ?_
      rintro z w6 ⟨rv, rfl, h⟩
      clear qI x7 xl
      obtain ⟨S, en, M6, r24, hou, hE⟩ := inv_end h
      clear h
      obtain ⟨ov, O6, H6⟩ := M6.1
      obtain ⟨_, B5, F05, ck5, hRn, hOk, hOl, hR, hs, -, HB, Be, E2, hl0, s5, s2, s1⟩ := HZ.out
      have s6 := M6.2.1.size
      have hQn : ∀ b, b < w.heap.size + 1 → ¬ O b → ¬ (b = rb ∨ Gw O w2 w5 b) := fun b hb ho h => by
        rcases h with h | h | h
        · omega
        · exact ho h
        · have := h.1; omega
      have hbn : ¬ O w.heap.size := fun h => by have := hOl _ h; omega
      have B6 : Blk w6 w.heap.size 6 z6 := (B5.frame HB.fr fun h => h).frame M6.2.1 (hQn _ (by omega) hbn)
      have Be6 : Blk w6 e 2 (me2 cm hm) := (Be.frame HB.fr fun h => h).frame M6.2.1 (hQn _ (by have := hl0 e (.inl rfl); omega) E2.oe)
      have ck6 : MCI w6 cm q := (ck5.frame HB.fr (fun h => h) fun h => h).frame M6.2.1 (hQn _ (by have := hl0 cm (.inr (.inl rfl)); omega) E2.om) (hQn _ (by have := hl0 q (.inr (.inr (.inl rfl))); omega) E2.oq)
      have F06 : Fr R w w6 := (F05.trans HB.fr fun _ _ h => h.elim).trans M6.2.1 fun b hb h => by
        rcases h with h | h | h
        · omega
        · exact hR b (.inr (.inr (.inr h)))
        · have := h.1; omega
      have hO6 : ∀ b, O6 b → (R b ∨ w.heap.size < b) ∧ b < w6.heap.size := fun b hb => by
        have h1 := H6.qo b hb
        refine ⟨?_, H6.lt b h1.1⟩
        rcases h1.1 with (h | h | h) | h
        · exact .inr (by omega)
        · exact .inl (hR b (.inr (.inr (.inr h))))
        · exact .inr (by have := h.1; omega)
        · exact .inr (by have := h.1; omega)
      have hO6n : ∀ b, (b = e ∨ b = cm ∨ b = q) → ¬ O6 b := fun b hb h => by
        have hno : ¬ O b := by rcases hb with rfl | rfl | rfl; exact E2.oe; exact E2.om; exact E2.oq
        have hbl : b < w.heap.size := hl0 b (by rcases hb with h | h | h; exact .inl h; exact .inr (.inl h); exact .inr (.inr (.inl h)))
        rcases (H6.qo b h).1 with h | h
        · exact hQn b (by omega) hno h
        · have := h.1; omega
      have hw6 : w.heap.size < w6.heap.size := by have := H6.rlt; omega
      have HW : Hid (True ∧ _) := ⟨trivial, And.intro F06 (And.intro hO6 (And.intro hs (And.intro hI (And.intro hOk (And.intro r24 (And.intro hR (And.intro hRn (And.intro hl0 hw6))))))))⟩
      have HEn : Hid (True ∧ _) := ⟨trivial, hE⟩
      have e14 : w6.cell? ⟨rb, 14, none⟩ = some ov := H6.c14
      have gl : rb < w6.heap.size := H6.rlt
      have hrb : rb ≠ w.heap.size := by omega
      obtain ⟨oa, oc, eov, hoc⟩ := H6.out.sl
      have hoX := H6.out
      have HA : Hid (True ∧ _) := ⟨trivial, And.intro H6 (And.intro B6 (And.intro Be6 ck6))⟩
      clear H6 B6 Be6 ck6 F06 hO6 hE hs hOk r24 hR hRn hl0 B5 F05 ck5 hOl HB Be E2 hQn hbn M6 s5 s2 s1 HZ HY hyF
      by_cases ho : S.out = []
      · have HE : Hid (True ∧ _) := ⟨trivial, And.intro HA.out.2.1 (And.intro HA.out.2.2.1 (And.intro HA.out.2.2.2.1 (And.intro HA.out.2.2.2.2 (And.intro (Fr.refl (fun _ => False) w6) (And.intro (show KiX w6 nilS S.out from .inl ⟨rfl, ho⟩) (fun b (hb : isB nilS b) => (absurd hb (nil_noB b) : w6.heap.size ≤ b)))))))⟩
        rw [eov, ho, List.length_nil] at e14
        clear eov hoc hoX ho
        have f17 : w6.cell? ⟨rb, 17, none⟩ = some (.int .i64 en) := HE.out.2.1.c17
        have f13 : w6.cell? ⟨rb, 13, none⟩ = some (.int .i64 S.fuel) := HE.out.2.1.c13
        have gl2 : rb < w6.heap.size := HE.out.2.1.rlt
        have o0 := HE.out.2.2.1.cell (o := 0) (by omega)
        have o1 := HE.out.2.2.1.cell (o := 1) (by omega)
        have o2 := HE.out.2.2.1.cell (o := 2) (by omega)
        have o3 := HE.out.2.2.1.cell (o := 3) (by omega)
        have o4 := HE.out.2.2.1.cell (o := 4) (by omega)
        have o5 := HE.out.2.2.1.cell (o := 5) (by omega)
        simp only [z6] at o0 o1 o2 o3 o4 o5
        have oz := HE.out.2.2.1.frozen
        have ol := HE.out.2.2.1.lt
        obtain ⟨sfu, hsfu⟩ : ∃ sfu, S.fuel = sfu := ⟨_, rfl⟩
        rw [hsfu] at f13
        have HV : Hid (True ∧ _) := ⟨trivial, hsfu⟩
        clear hsfu
        obtain ⟨_, hE⟩ := HEn.out
        rcases hE with ⟨rfl, hEE⟩ | ⟨hne, hEE⟩
        · have HEE : Hid (True ∧ _) := ⟨trivial, hEE⟩
          clear hEE
          go_wp2_with fail
          have B2 := (HE.out.2.2.1.set6v (.int .i64 0) (.int .i64 0) (.int .i64 21) (.int .i64 rv) (nilS) (.int .i64 sfu))
          have F2 := ((Fr.refl (fun b => b = w.heap.size) w6).set6v (b := w.heap.size) (fun _ => rfl) (.int .i64 0) (.int .i64 0) (.int .i64 21) (.int .i64 rv) (nilS) (.int .i64 sfu))
          unfold set6v at B2 F2
          have q0 := B2.cell (o := 0) (by omega)
          have q1 := B2.cell (o := 1) (by omega)
          have q2 := B2.cell (o := 2) (by omega)
          have q3 := B2.cell (o := 3) (by omega)
          have q4 := B2.cell (o := 4) (by omega)
          have q5 := B2.cell (o := 5) (by omega)
          simp only [c6] at q0 q1 q2 q3 q4 q5
          refine bodyPost_ret (v := resV 0 0 21 rv (nilS) sfu) (by simp [results, Tryz.results19, go_sem, resV, q0, q1, q2, q3, q4, q5]) rfl ?_
          obtain ⟨_, RE, _, be, bk, FE, KE, oE⟩ := HE.out
          obtain ⟨_, hEE⟩ := HEE.out
          obtain ⟨_, F06, hO6, hs, hI, hOk, r24, hR, hRn, hl0, hw6⟩ := HW.out
          have hsfu := HV.out.2
          have s6 := F06.size
          have sE := FE.size
          have s2 := F2.size
          refine ⟨0, 0, 21, rv, sfu, S.out, nilS, MAll e cm q O6, rfl, .inr (.inr (.inr ⟨hs, hI, X, s, m, hOk, rfl, rfl, by rw [← hsfu]; exact hEE⟩)), ⟨cm, q, hm, S.M, O6, ⟨be.frame F2 fun h => by have := hl0 e (.inl rfl); omega, bk.frame F2 (fun h => by have := hl0 cm (.inr (.inl rfl)); omega) (fun h => by have := hl0 q (.inr (.inr (.inl rfl))); omega), RE.hp.frame F2 fun b hb h => hRn (h ▸ (hO6 b hb).1.resolve_right (by omega)), r24, ?_, ?_, ?_⟩, fun _ => id, fun b hb => ?_⟩, fun b hb => ?_, KE.frame F2 fun b hb h => by have := oE b hb; omega, fun b hb => ⟨by have := oE b hb; omega, fun h => ?_⟩, (F06.trans FE fun _ _ h => h.elim).trans F2 fun b hb h => by omega⟩
          · exact fun h => hO6n e (.inl rfl) h
          · exact fun h => hO6n cm (.inr (.inl rfl)) h
          · exact fun h => hO6n q (.inr (.inr rfl)) h
          · refine Nat.lt_of_lt_of_le (m := w6.heap.size) ?_ F2.size
            rcases hb with h | h | h | h
            · have := hl0 b (.inl h); omega
            · have := hl0 b (.inr (.inl h)); omega
            · have := hl0 b (.inr (.inr (.inl h))); omega
            · have := (hO6 b h).2; omega
          · rcases hb with h | h | h | h
            · exact .inl (hR b (.inl h))
            · exact .inl (hR b (.inr (.inl h)))
            · exact .inl (hR b (.inr (.inr (.inl h))))
            · exact (hO6 b h).1.imp id fun h => by omega
          · have o := oE b hb
            rcases h with h | h | h | h
            · have := hl0 b (.inl h); omega
            · have := hl0 b (.inr (.inl h)); omega
            · have := hl0 b (.inr (.inr (.inl h))); omega
            · have := (hO6 b h).2; omega
        · have HEE : Hid (True ∧ _) := ⟨trivial, hEE⟩
          clear hEE
          have yy : (en != 0) = true := by simpa using hne
          go_wp2_with fail
          refine wp_region_text (by kernel_rfl) (by kernel_rfl) ?_
          go_wp2_with fail
          refine ⟨by kernel_rfl, ?_⟩
          go_wp2_with fail
          have B2 := (HE.out.2.2.1.set6v (.int .i64 0) (.int .i64 0) (.int .i64 en) (.int .i64 0) (nilS) (.int .i64 sfu)).drew
          have F2 := ((Fr.refl (fun b => b = w.heap.size) w6).set6v (b := w.heap.size) (fun _ => rfl) (.int .i64 0) (.int .i64 0) (.int .i64 en) (.int .i64 0) (nilS) (.int .i64 sfu)).drew
          unfold set6v at B2 F2
          have q0 := B2.cell (o := 0) (by omega)
          have q1 := B2.cell (o := 1) (by omega)
          have q2 := B2.cell (o := 2) (by omega)
          have q3 := B2.cell (o := 3) (by omega)
          have q4 := B2.cell (o := 4) (by omega)
          have q5 := B2.cell (o := 5) (by omega)
          simp only [c6] at q0 q1 q2 q3 q4 q5
          refine bodyPost_ret (v := resV 0 0 en 0 (nilS) sfu) (by simp [results, Tryz.results19, go_sem, resV, q0, q1, q2, q3, q4, q5]) rfl ?_
          obtain ⟨_, RE, _, be, bk, FE, KE, oE⟩ := HE.out
          obtain ⟨_, hEE⟩ := HEE.out
          obtain ⟨_, F06, hO6, hs, hI, hOk, r24, hR, hRn, hl0, hw6⟩ := HW.out
          have hsfu := HV.out.2
          have s6 := F06.size
          have sE := FE.size
          have s2 := F2.size
          refine ⟨0, 0, en, 0, sfu, S.out, nilS, MAll e cm q O6, rfl, .inr (.inr (.inr ⟨hs, hI, X, s, m, hOk, rfl, rfl, by rw [← hsfu]; exact hEE⟩)), ⟨cm, q, hm, S.M, O6, ⟨be.frame F2 fun h => by have := hl0 e (.inl rfl); omega, bk.frame F2 (fun h => by have := hl0 cm (.inr (.inl rfl)); omega) (fun h => by have := hl0 q (.inr (.inr (.inl rfl))); omega), RE.hp.frame F2 fun b hb h => hRn (h ▸ (hO6 b hb).1.resolve_right (by omega)), r24, ?_, ?_, ?_⟩, fun _ => id, fun b hb => ?_⟩, fun b hb => ?_, KE.frame F2 fun b hb h => by have := oE b hb; omega, fun b hb => ⟨by have := oE b hb; omega, fun h => ?_⟩, (F06.trans FE fun _ _ h => h.elim).trans F2 fun b hb h => by omega⟩
          · exact fun h => hO6n e (.inl rfl) h
          · exact fun h => hO6n cm (.inr (.inl rfl)) h
          · exact fun h => hO6n q (.inr (.inr rfl)) h
          · refine Nat.lt_of_lt_of_le (m := w6.heap.size) ?_ F2.size
            rcases hb with h | h | h | h
            · have := hl0 b (.inl h); omega
            · have := hl0 b (.inr (.inl h)); omega
            · have := hl0 b (.inr (.inr (.inl h))); omega
            · have := (hO6 b h).2; omega
          · rcases hb with h | h | h | h
            · exact .inl (hR b (.inl h))
            · exact .inl (hR b (.inr (.inl h)))
            · exact .inl (hR b (.inr (.inr (.inl h))))
            · exact (hO6 b h).1.imp id fun h => by omega
          · have o := oE b hb
            rcases h with h | h | h | h
            · have := hl0 b (.inl h); omega
            · have := hl0 b (.inr (.inl h)); omega
            · have := hl0 b (.inr (.inr (.inl h))); omega
            · have := (hO6 b h).2; omega
      · obtain ⟨ob, ocap, fo, eo2, hcap, hBo, hfo⟩ : ∃ ob ocap fo, ov = .slice (some ⟨ob, 0, none⟩) S.out.length ocap ∧ S.out.length ≤ ocap ∧ Blk w6 ob ocap fo ∧ ∀ i (h : i < S.out.length), fo i = .int .i64 S.out[i] := by
          rcases hoX with ⟨_, h⟩ | ⟨b, cap, f, h1, h2, h3, h4⟩
          · exact absurd h ho
          · exact ⟨b, cap, f, h1, h2, h3, h4⟩
        have hpos : 0 < S.out.length := List.length_pos_iff.2 ho
        have y2 : decide ((S.out.length : Int) > 0) = true := decide_eq_true (by omega)
        have y3 : decide ((0 : Int) < S.out.length) = true := decide_eq_true (by omega)
        have hfo1 : ∀ j, j < S.out.length * 1 → (fo (0 + j)).oneCell' = true := fun j hj => by rw [Nat.zero_add, hfo j (by omega)]; rfl
        have hobl := hBo.lt
        rw [eo2] at e14
        have HB0 : Hid (True ∧ _) := ⟨trivial, And.intro hBo (And.intro hfo (And.intro hcap eo2))⟩
        clear eov hoc hoX hBo
        obtain ⟨nb, hnb⟩ : ∃ nb, nb = w6.heap.size := ⟨_, rfl⟩
        have Hnb : Hid (True ∧ _) := ⟨trivial, hnb⟩
        have hnbo : ob ≠ nb := by omega
        clear hnb eo2
        go_upto_region 16 with (first
          | (refine wpList_makeB (w := w6) (by rfl) 36 _ _ (by rfl) 3 1 8 (.int .i64 0) S.out.length (by rfl) (by rfl) Tryz.underlying36 (by kernel_rfl) (by kernel_rfl) (by kernel_rfl) (by omega) (by omega) ?_
             intro w4 F4 s4 B4
             have R4 := HA.out.2.1.same F4
             have d4 : w4.cell? ⟨rb, 14, none⟩ = some ov := R4.c14
             rw [HB0.out.2.2.2.2] at d4
             have dl : rb < w4.heap.size := R4.rlt
             have hBo4 := HB0.out.2.1.frame F4 (fun h => h)
             rw [← Hnb.out.2] at B4 ⊢
             have HB4 : Hid (True ∧ _) := ⟨trivial, And.intro F4 (And.intro B4 R4)⟩
             clear e14 gl F4 R4)
          | (refine wpList_copyA (w := w4) (by rfl) _ _ 36 36 (by rfl) 3 1 nb 0 S.out.length S.out.length ob 0 S.out.length ocap (S.out.length * 1) ocap S.out.length _ fo (by rfl) (by rfl) Tryz.underlying36 (by kernel_rfl) (Nat.min_self _).symm B4 hBo4 (by omega) (by omega) hfo1 ?_
             intro w7 F7 B7
             have HB7 : Hid (True ∧ _) := ⟨trivial, And.intro F7 B7⟩
             clear F7 B7))
        have hki : KiX w7 (.slice (some ⟨nb, 0, none⟩) S.out.length S.out.length) S.out := by
          have hb5 := HB7.out.2.2
          rw [Nat.mul_one] at hb5
          refine .inr ⟨nb, _, ho, rfl, hb5, fun i hi => ?_⟩
          rw [lay_in _ _ _ _ (by omega) (by rw [rowOf_length]; omega)]
          have := rowOf_get fo 0 (S.out.length) i hi
          rw [Nat.zero_add, hfo i hi] at this
          simp only [Nat.sub_zero]
          obtain ⟨_, h2⟩ := List.getElem?_eq_some_iff.1 this
          exact h2
        have hnw : w6.heap.size ≤ nb := by rw [Hnb.out.2]; exact Nat.le_refl _
        have F67 : Fr (fun _ => False) w6 w7 := HB4.out.2.1.trans HB7.out.2.1 fun c hc h => by omega
        have HE : Hid (True ∧ _) := ⟨trivial, And.intro (HA.out.2.1.same F67) (And.intro (HA.out.2.2.1.frame F67 fun h => h) (And.intro (HA.out.2.2.2.1.frame F67 fun h => h) (And.intro (HA.out.2.2.2.2.frame F67 (fun h => h) fun h => h) (And.intro F67 (And.intro hki (fun b (hb : isB (.slice (some ⟨nb, 0, none⟩) S.out.length S.out.length) b) => (show w6.heap.size ≤ b by rw [isB_one hb]; exact hnw)))))))⟩
        clear hki HB0 hfo hfo1 dl d4 hBo4 B4 F67
        have f17 : w7.cell? ⟨rb, 17, none⟩ = some (.int .i64 en) := HE.out.2.1.c17
        have f13 : w7.cell? ⟨rb, 13, none⟩ = some (.int .i64 S.fuel) := HE.out.2.1.c13
        have gl2 : rb < w7.heap.size := HE.out.2.1.rlt
        have o0 := HE.out.2.2.1.cell (o := 0) (by omega)
        have o1 := HE.out.2.2.1.cell (o := 1) (by omega)
        have o2 := HE.out.2.2.1.cell (o := 2) (by omega)
        have o3 := HE.out.2.2.1.cell (o := 3) (by omega)
        have o4 := HE.out.2.2.1.cell (o := 4) (by omega)
        have o5 := HE.out.2.2.1.cell (o := 5) (by omega)
        simp only [z6] at o0 o1 o2 o3 o4 o5
        have oz := HE.out.2.2.1.frozen
        have ol := HE.out.2.2.1.lt
        obtain ⟨sfu, hsfu⟩ : ∃ sfu, S.fuel = sfu := ⟨_, rfl⟩
        rw [hsfu] at f13
        have HV : Hid (True ∧ _) := ⟨trivial, hsfu⟩
        clear hsfu
        obtain ⟨_, hE⟩ := HEn.out
        rcases hE with ⟨rfl, hEE⟩ | ⟨hne, hEE⟩
        · have HEE : Hid (True ∧ _) := ⟨trivial, hEE⟩
          clear hEE
          go_wp2_with fail
          have B2 := (HE.out.2.2.1.set6v (.int .i64 0) (.int .i64 0) (.int .i64 21) (.int .i64 rv) (.slice (some ⟨nb, 0, none⟩) S.out.length S.out.length) (.int .i64 sfu))
          have F2 := ((Fr.refl (fun b => b = w.heap.size) w7).set6v (b := w.heap.size) (fun _ => rfl) (.int .i64 0) (.int .i64 0) (.int .i64 21) (.int .i64 rv) (.slice (some ⟨nb, 0, none⟩) S.out.length S.out.length) (.int .i64 sfu))
          unfold set6v at B2 F2
          have q0 := B2.cell (o := 0) (by omega)
          have q1 := B2.cell (o := 1) (by omega)
          have q2 := B2.cell (o := 2) (by omega)
          have q3 := B2.cell (o := 3) (by omega)
          have q4 := B2.cell (o := 4) (by omega)
          have q5 := B2.cell (o := 5) (by omega)
          simp only [c6] at q0 q1 q2 q3 q4 q5
          refine bodyPost_ret (v := resV 0 0 21 rv (.slice (some ⟨nb, 0, none⟩) S.out.length S.out.length) sfu) (by simp [results, Tryz.results19, go_sem, resV, q0, q1, q2, q3, q4, q5]) rfl ?_
          obtain ⟨_, RE, _, be, bk, FE, KE, oE⟩ := HE.out
          obtain ⟨_, hEE⟩ := HEE.out
          obtain ⟨_, F06, hO6, hs, hI, hOk, r24, hR, hRn, hl0, hw6⟩ := HW.out
          have hsfu := HV.out.2
          have s6 := F06.size
          have sE := FE.size
          have s2 := F2.size
          refine ⟨0, 0, 21, rv, sfu, S.out, .slice (some ⟨nb, 0, none⟩) S.out.length S.out.length, MAll e cm q O6, rfl, .inr (.inr (.inr ⟨hs, hI, X, s, m, hOk, rfl, rfl, by rw [← hsfu]; exact hEE⟩)), ⟨cm, q, hm, S.M, O6, ⟨be.frame F2 fun h => by have := hl0 e (.inl rfl); omega, bk.frame F2 (fun h => by have := hl0 cm (.inr (.inl rfl)); omega) (fun h => by have := hl0 q (.inr (.inr (.inl rfl))); omega), RE.hp.frame F2 fun b hb h => hRn (h ▸ (hO6 b hb).1.resolve_right (by omega)), r24, ?_, ?_, ?_⟩, fun _ => id, fun b hb => ?_⟩, fun b hb => ?_, KE.frame F2 fun b hb h => by have := oE b hb; omega, fun b hb => ⟨by have := oE b hb; omega, fun h => ?_⟩, (F06.trans FE fun _ _ h => h.elim).trans F2 fun b hb h => by omega⟩
          · exact fun h => hO6n e (.inl rfl) h
          · exact fun h => hO6n cm (.inr (.inl rfl)) h
          · exact fun h => hO6n q (.inr (.inr rfl)) h
          · refine Nat.lt_of_lt_of_le (m := w7.heap.size) ?_ F2.size
            rcases hb with h | h | h | h
            · have := hl0 b (.inl h); omega
            · have := hl0 b (.inr (.inl h)); omega
            · have := hl0 b (.inr (.inr (.inl h))); omega
            · have := (hO6 b h).2; omega
          · rcases hb with h | h | h | h
            · exact .inl (hR b (.inl h))
            · exact .inl (hR b (.inr (.inl h)))
            · exact .inl (hR b (.inr (.inr (.inl h))))
            · exact (hO6 b h).1.imp id fun h => by omega
          · have o := oE b hb
            rcases h with h | h | h | h
            · have := hl0 b (.inl h); omega
            · have := hl0 b (.inr (.inl h)); omega
            · have := hl0 b (.inr (.inr (.inl h))); omega
            · have := (hO6 b h).2; omega
        · have HEE : Hid (True ∧ _) := ⟨trivial, hEE⟩
          clear hEE
          have yy : (en != 0) = true := by simpa using hne
          go_wp2_with fail
          refine wp_region_text (by kernel_rfl) (by kernel_rfl) ?_
          go_wp2_with fail
          refine ⟨by kernel_rfl, ?_⟩
          go_wp2_with fail
          have B2 := (HE.out.2.2.1.set6v (.int .i64 0) (.int .i64 0) (.int .i64 en) (.int .i64 0) (.slice (some ⟨nb, 0, none⟩) S.out.length S.out.length) (.int .i64 sfu)).drew
          have F2 := ((Fr.refl (fun b => b = w.heap.size) w7).set6v (b := w.heap.size) (fun _ => rfl) (.int .i64 0) (.int .i64 0) (.int .i64 en) (.int .i64 0) (.slice (some ⟨nb, 0, none⟩) S.out.length S.out.length) (.int .i64 sfu)).drew
          unfold set6v at B2 F2
          have q0 := B2.cell (o := 0) (by omega)
          have q1 := B2.cell (o := 1) (by omega)
          have q2 := B2.cell (o := 2) (by omega)
          have q3 := B2.cell (o := 3) (by omega)
          have q4 := B2.cell (o := 4) (by omega)
          have q5 := B2.cell (o := 5) (by omega)
          simp only [c6] at q0 q1 q2 q3 q4 q5
          refine bodyPost_ret (v := resV 0 0 en 0 (.slice (some ⟨nb, 0, none⟩) S.out.length S.out.length) sfu) (by simp [results, Tryz.results19, go_sem, resV, q0, q1, q2, q3, q4, q5]) rfl ?_
          obtain ⟨_, RE, _, be, bk, FE, KE, oE⟩ := HE.out
          obtain ⟨_, hEE⟩ := HEE.out
          obtain ⟨_, F06, hO6, hs, hI, hOk, r24, hR, hRn, hl0, hw6⟩ := HW.out
          have hsfu := HV.out.2
          have s6 := F06.size
          have sE := FE.size
          have s2 := F2.size
          refine ⟨0, 0, en, 0, sfu, S.out, .slice (some ⟨nb, 0, none⟩) S.out.length S.out.length, MAll e cm q O6, rfl, .inr (.inr (.inr ⟨hs, hI, X, s, m, hOk, rfl, rfl, by rw [← hsfu]; exact hEE⟩)), ⟨cm, q, hm, S.M, O6, ⟨be.frame F2 fun h => by have := hl0 e (.inl rfl); omega, bk.frame F2 (fun h => by have := hl0 cm (.inr (.inl rfl)); omega) (fun h => by have := hl0 q (.inr (.inr (.inl rfl))); omega), RE.hp.frame F2 fun b hb h => hRn (h ▸ (hO6 b hb).1.resolve_right (by omega)), r24, ?_, ?_, ?_⟩, fun _ => id, fun b hb => ?_⟩, fun b hb => ?_, KE.frame F2 fun b hb h => by have := oE b hb; omega, fun b hb => ⟨by have := oE b hb; omega, fun h => ?_⟩, (F06.trans FE fun _ _ h => h.elim).trans F2 fun b hb h => by omega⟩
          · exact fun h => hO6n e (.inl rfl) h
          · exact fun h => hO6n cm (.inr (.inl rfl)) h
          · exact fun h => hO6n q (.inr (.inr rfl)) h
          · refine Nat.lt_of_lt_of_le (m := w7.heap.size) ?_ F2.size
            rcases hb with h | h | h | h
            · have := hl0 b (.inl h); omega
            · have := hl0 b (.inr (.inl h)); omega
            · have := hl0 b (.inr (.inr (.inl h))); omega
            · have := (hO6 b h).2; omega
          · rcases hb with h | h | h | h
            · exact .inl (hR b (.inl h))
            · exact .inl (hR b (.inr (.inl h)))
            · exact .inl (hR b (.inr (.inr (.inl h))))
            · exact (hO6 b h).1.imp id fun h => by omega
          · have o := oE b hb
            rcases h with h | h | h | h
            · have := hl0 b (.inl h); omega
            · have := hl0 b (.inr (.inl h)); omega
            · have := hl0 b (.inr (.inr (.inl h))); omega
            · have := (hO6 b h).2; omega
  · have y1 : (err != 0) = true := by simpa using he
    have B2 := (hB1.set6v (.int .i64 err) (.int .i64 pos) (.int .i64 0) (.int .i64 0) nilS (.int .i64 fuel)).alloc (.cells #[.slice va ns.length vk, .int .i64 root, .int .i64 0, .int .i64 0, .slice ta ty.length tk, .slice ra rf.length rk, .slice fa rs.length fk, .int .i64 main, .int .i64 err, .int .i64 pos] 69)
    have F2 := ((Fr.refl (fun b => b = w.heap.size) w1).set6v (b := w.heap.size) (fun _ => rfl) (.int .i64 err) (.int .i64 pos) (.int .i64 0) (.int .i64 0) nilS (.int .i64 fuel)).alloc (.cells #[.slice va ns.length vk, .int .i64 root, .int .i64 0, .int .i64 0, .slice ta ty.length tk, .slice ra rf.length rk, .slice fa rs.length fk, .int .i64 main, .int .i64 err, .int .i64 pos] 69)
    have HF : Hid (True ∧ _) := ⟨trivial, And.intro B2 (And.intro F2 (And.intro E1 (And.intro hR (And.intro F01 (And.intro K1 (And.intro he (And.intro hRn (And.intro hs (And.intro hI hRl)))))))))⟩
    clear B2 F2 E1 hR F01 K1 he hRn hs hI F1 AM fb hB1 sz1 hl0 E hRl hy hyd k0 hB E0 hsz eyv hf hf0
    unfold set6v at HF
    go_wp2_with fail
    obtain ⟨_, B2, F2, E1, hR, F01, K1, he, hRn, hs, hI, hRl⟩ := HF.out
    have q0 := B2.cell (o := 0) (by omega)
    have q1 := B2.cell (o := 1) (by omega)
    have q2 := B2.cell (o := 2) (by omega)
    have q3 := B2.cell (o := 3) (by omega)
    have q4 := B2.cell (o := 4) (by omega)
    have q5 := B2.cell (o := 5) (by omega)
    simp only [c6] at q0 q1 q2 q3 q4 q5
    refine bodyPost_ret (v := resV err pos 0 0 nilS fuel) (by simp [results, Tryz.results19, go_sem, resV, q0, q1, q2, q3, q4, q5]) rfl ?_
    refine ⟨err, pos, 0, 0, fuel, [], nilS, R, rfl, .inr (.inr (.inl ⟨hs, hI, ⟨_, _, _, _, _, _, K1, he⟩, rfl, rfl, rfl, rfl⟩)), ?_, fun b hb => .inl hb, .inl ⟨rfl, rfl⟩, fun b hb => absurd hb (nil_noB b), F01.trans F2 fun b hb e => by omega⟩
    exact ⟨cm, q, hm, M, O, E1.frame F2 fun b hb e => hRn (e ▸ hR b hb), hR, fun b hb => Nat.lt_of_lt_of_le (Nat.lt_of_lt_of_le (hRl b hb) F01.size) F2.size⟩
theorem runMg (H : MReal w e R) (hy : KiAt w yv I) (hyd : ∀ b, isB yv b → ¬ R b) (hf : fuel ≤ 9223372036854775807) (hf0 : -9223372036854775808 ≤ fuel) : Calls Tryz.prog 19 #[.pointer (some ⟨e, 0, none⟩), .string src, yv, .int .i64 fuel] w (MRunR w e R src I fuel) := by
  by_cases hs : 4096 < src.size
  · exact runMg_long H hs
  by_cases hI : 128 < I.length
  · exact runMg_inp H hy (by omega) hI
  · exact runMg_go H hy hyd (by omega) (by omega) hf hf0
end
end Go.Proofs.Qxb6500277aGreat
