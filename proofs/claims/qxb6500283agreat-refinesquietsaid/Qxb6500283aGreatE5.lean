/- The model's engine: search. -/
import Derived.Test.Qxb6500283aGreatE1
import Derived.Test.Qxb6500283aGreatM16
namespace Go.Proofs.Qxb6500283aGreat
open Go Go.RowKit

def meCell (sx mc c3 c4 : Nat) (o : Nat) : Value := match o with | 0 => .pointer (some ⟨sx, 0, none⟩) | 1 => .pointer (some ⟨mc, 0, none⟩) | 2 => .int .i64 (c3 : Nat) | _ => .int .i64 (c4 : Nat)
def MO (m sx mc sp c : Nat) : Prop := c = m ∨ c = sx ∨ c = mc ∨ c = sp
structure ME (w : World) (m sx mc sp G K : Nat) : Prop where
  blk : ∃ c3 c4, c3 ≤ K ∧ c4 ≤ K ∧ Blk w m 4 (meCell sx mc c3 c4)
  par : ∃ c, c ≤ G ∧ Blk w sx 1 (fun _ => .int .i64 (c : Nat))
  sim : ∃ c, c ≤ G ∧ MC w mc sp c
  ap : sx < sp ∧ sp < mc ∧ mc < m ∧ m < w.heap.size
section
variable {w : World} {m sx mc sp G K : Nat}
theorem ME.frame {S : Nat → Prop} {w' : World} (h : ME w m sx mc sp G K) (k : Fr S w w') (hS : ∀ c, MO m sx mc sp c → ¬ S c) : ME w' m sx mc sp G K := by
  obtain ⟨⟨c3, c4, h3, h4, hb⟩, ⟨c, hc, hs⟩, ⟨d, hd, hm⟩, ap⟩ := h
  exact ⟨⟨c3, c4, h3, h4, hb.frame k (hS _ (.inl rfl))⟩, ⟨c, hc, hs.frame k (hS _ (.inr (.inl rfl)))⟩, ⟨d, hd, hm.frame k (hS _ (.inr (.inr (.inl rfl)))) (hS _ (.inr (.inr (.inr rfl))))⟩, ap.1, ap.2.1, ap.2.2.1, by have := k.size; omega⟩
theorem ME.le {G' K' : Nat} (h : ME w m sx mc sp G K) (hg : G ≤ G') (hk : K ≤ K') : ME w m sx mc sp G' K' := by
  obtain ⟨⟨c3, c4, h3, h4, hb⟩, ⟨c, hc, hs⟩, ⟨d, hd, hm⟩, ap⟩ := h
  exact ⟨⟨c3, c4, by omega, by omega, hb⟩, ⟨c, by omega, hs⟩, ⟨d, by omega, hm⟩, ap⟩
theorem ME.lt (h : ME w m sx mc sp G K) {c : Nat} (hc : MO m sx mc sp c) : c < w.heap.size := by
  have := h.ap
  unfold MO at hc
  omega
theorem treeB (w : World) (v : Value) (y g e q : Int) : Blk (w.alloc (.cells #[v, .int .i64 y, .int .i64 g, .int .i64 e, .int .i64 q] 148)) w.heap.size 5 (fun o => (#[v, .int .i64 y, .int .i64 g, .int .i64 e, .int .i64 q] : Array Value).getD o undef) :=
  Blk.new w _ _ _ fun o ho => by
    have ho : o < 5 := by simpa using ho
    obtain rfl | rfl | rfl | rfl | rfl : o = 0 ∨ o = 1 ∨ o = 2 ∨ o = 3 ∨ o = 4 := by omega
    all_goals rfl
end
set_option maxRecDepth 100000 in
set_option maxHeartbeats 8000000 in
theorem searchM_long (p s : ByteArray) (h : 128 < p.size ∨ 256 < s.size) (e : Nat) (fr : Int) (w : World) :
    Calls Tryz.prog 54 #[.pointer (some ⟨e, 0, none⟩), .string p, .string s, .int .i64 fr] w fun v w' => v = .returned (foundV 12 0 false noC) ∧ Fr (fun _ => False) w w' := by
  have hp : (128 < (p.size : Int)) ∨ ((p.size : Int) ≤ 128 ∧ 256 < (s.size : Int)) := by omega
  clear h
  have hRc := Blk.z11 w
  have f2 := (Fr.refl (fun _ => False) w).alloc (.cells #[.int .i64 0, .int .i64 0, .bool false, .int .i64 0, .int .i64 0, .int .i64 0, .int .i64 0, .int .i64 0, .int .i64 0, .int .i64 0, .int .i64 0] 66)
  go_enter Tryz.func54, Tryz.ntmps54
  rcases hp with hp | ⟨hp, hs⟩
  · go_wp2_with fail
    refine (refusedF_any 12 0 _).mono ?_
    rintro v w3 ⟨rfl, f3⟩
    have hRc3 := hRc.frame f3 (fun h => h)
    have F3 := f2.trans f3 (fun _ _ h => h)
    have m0 := hRc3.cell (o := 0) (by omega)
    have m1 := hRc3.cell (o := 1) (by omega)
    have m2 := hRc3.cell (o := 2) (by omega)
    have m3 := hRc3.cell (o := 3) (by omega)
    have m4 := hRc3.cell (o := 4) (by omega)
    have m5 := hRc3.cell (o := 5) (by omega)
    have m6 := hRc3.cell (o := 6) (by omega)
    have m7 := hRc3.cell (o := 7) (by omega)
    have m8 := hRc3.cell (o := 8) (by omega)
    have m9 := hRc3.cell (o := 9) (by omega)
    have m10 := hRc3.cell (o := 10) (by omega)
    have zR := hRc3.frozen
    have lR := hRc3.lt
    rw [foundV_no]
    go_wp2_with fail
    have e11 := cells11 hRc3 (.int .i64 12) (.int .i64 0) (.bool false) (.int .i64 (-1)) (.int .i64 (-1)) (.int .i64 (-1)) (.int .i64 (-1)) (.int .i64 (-1)) (.int .i64 (-1)) (.int .i64 (-1)) (.int .i64 (-1))
    have FF := F3.trans (fr11 w3 w.heap.size (.int .i64 12) (.int .i64 0) (.bool false) (.int .i64 (-1)) (.int .i64 (-1)) (.int .i64 (-1)) (.int .i64 (-1)) (.int .i64 (-1)) (.int .i64 (-1)) (.int .i64 (-1)) (.int .i64 (-1))) (fun b hb h => by omega)
    have r0 := e11.cell (o := 0) (by omega)
    have r1 := e11.cell (o := 1) (by omega)
    have r2 := e11.cell (o := 2) (by omega)
    have r3 := e11.cell (o := 3) (by omega)
    have r4 := e11.cell (o := 4) (by omega)
    have r5 := e11.cell (o := 5) (by omega)
    have r6 := e11.cell (o := 6) (by omega)
    have r7 := e11.cell (o := 7) (by omega)
    have r8 := e11.cell (o := 8) (by omega)
    have r9 := e11.cell (o := 9) (by omega)
    have r10 := e11.cell (o := 10) (by omega)
    simp only [get11] at r0 r1 r2 r3 r4 r5 r6 r7 r8 r9 r10
    exact bodyPost_ret (v := foundV 12 0 false noC) (by simp [results, Tryz.results54, go_sem, foundV, noC, r0, r1, r2, r3, r4, r5, r6, r7, r8, r9, r10]) rfl ⟨rfl, FF⟩
  · go_wp2_with fail
    refine (refusedF_any 12 0 _).mono ?_
    rintro v w3 ⟨rfl, f3⟩
    have hRc3 := hRc.frame f3 (fun h => h)
    have F3 := f2.trans f3 (fun _ _ h => h)
    have m0 := hRc3.cell (o := 0) (by omega)
    have m1 := hRc3.cell (o := 1) (by omega)
    have m2 := hRc3.cell (o := 2) (by omega)
    have m3 := hRc3.cell (o := 3) (by omega)
    have m4 := hRc3.cell (o := 4) (by omega)
    have m5 := hRc3.cell (o := 5) (by omega)
    have m6 := hRc3.cell (o := 6) (by omega)
    have m7 := hRc3.cell (o := 7) (by omega)
    have m8 := hRc3.cell (o := 8) (by omega)
    have m9 := hRc3.cell (o := 9) (by omega)
    have m10 := hRc3.cell (o := 10) (by omega)
    have zR := hRc3.frozen
    have lR := hRc3.lt
    rw [foundV_no]
    go_wp2_with fail
    have e11 := cells11 hRc3 (.int .i64 12) (.int .i64 0) (.bool false) (.int .i64 (-1)) (.int .i64 (-1)) (.int .i64 (-1)) (.int .i64 (-1)) (.int .i64 (-1)) (.int .i64 (-1)) (.int .i64 (-1)) (.int .i64 (-1))
    have FF := F3.trans (fr11 w3 w.heap.size (.int .i64 12) (.int .i64 0) (.bool false) (.int .i64 (-1)) (.int .i64 (-1)) (.int .i64 (-1)) (.int .i64 (-1)) (.int .i64 (-1)) (.int .i64 (-1)) (.int .i64 (-1)) (.int .i64 (-1))) (fun b hb h => by omega)
    have r0 := e11.cell (o := 0) (by omega)
    have r1 := e11.cell (o := 1) (by omega)
    have r2 := e11.cell (o := 2) (by omega)
    have r3 := e11.cell (o := 3) (by omega)
    have r4 := e11.cell (o := 4) (by omega)
    have r5 := e11.cell (o := 5) (by omega)
    have r6 := e11.cell (o := 6) (by omega)
    have r7 := e11.cell (o := 7) (by omega)
    have r8 := e11.cell (o := 8) (by omega)
    have r9 := e11.cell (o := 9) (by omega)
    have r10 := e11.cell (o := 10) (by omega)
    simp only [get11] at r0 r1 r2 r3 r4 r5 r6 r7 r8 r9 r10
    exact bodyPost_ret (v := foundV 12 0 false noC) (by simp [results, Tryz.results54, go_sem, foundV, noC, r0, r1, r2, r3, r4, r5, r6, r7, r8, r9, r10]) rfl ⟨rfl, FF⟩
section
variable {w : World} {m sx mc sp G K : Nat}
set_option maxRecDepth 100000 in
set_option maxHeartbeats 8000000 in
theorem searchM (h : ME w m sx mc sp G K) (hG : G ≤ 1000000000000000000) (p s : ByteArray) (fr : Int) :
    Calls Tryz.prog 54 #[.pointer (some ⟨m, 0, none⟩), .string p, .string s, .int .i64 fr] w fun v w' => (∃ er q o, v = .returned (foundV er q (okOf o) (cpOf o)) ∧ Sol p s fr er q o) ∧ ME w' m sx mc sp (G + 1) K ∧ Fr (MO m sx mc sp) w w' := by
  by_cases hL : 128 < p.size ∨ 256 < s.size
  · refine (searchM_long p s hL m fr w).mono ?_
    rintro v w' ⟨rfl, f⟩
    exact ⟨⟨_, _, none, rfl, .long hL⟩, (h.frame f (fun _ _ h => h)).le (by omega) (Nat.le_refl _), f.mono (fun _ _ h => h.elim)⟩
  · have hps : p.size ≤ 128 := by omega
    have hss : s.size ≤ 256 := by omega
    have hp1 : (p.size : Int) ≤ 128 := by omega
    have hs1 : (s.size : Int) ≤ 256 := by omega
    clear hL
    have f2 := (Fr.refl (fun _ => False) w).alloc (.cells #[.int .i64 0, .int .i64 0, .bool false, .int .i64 0, .int .i64 0, .int .i64 0, .int .i64 0, .int .i64 0, .int .i64 0, .int .i64 0, .int .i64 0] 66)
    have hRc := Blk.z11 w
    have ap := h.ap
    have h2 := h.frame f2 (fun _ _ h => h)
    obtain ⟨⟨c3, c4, l3, l4, hb⟩, ⟨c, lc, hs⟩, ⟨d, ld, hm⟩, _⟩ := h2
    have m0 := hb.cell (o := 0) (by omega)
    have m1 := hb.cell (o := 1) (by omega)
    have hbl := hb.lt
    simp only [meCell] at m0 m1
    go_enter Tryz.func54, Tryz.ntmps54
    go_wp2_with fail
    refine (parseM_any hs (by omega) p).mono ?_
    rintro v w3 ⟨o, hM, hP, hs3, f3⟩
    have hRc3 := hRc.frame f3 (fun e => by omega)
    have hb3 := hb.frame f3 (fun e => by omega)
    have hm3 := hm.frame f3 (fun e => by omega) (fun e => by omega)
    have F3 : Fr (MO m sx mc sp) w w3 := (f2.mono (fun _ _ h => h.elim)).trans f3 (fun c _ e => .inr (.inl e))
    have hz3 := f3.size
    simp only [World.size_alloc] at hz3
    clear hb m0 m1 hbl
    have m0 := hb3.cell (o := 0) (by omega)
    have m1 := hb3.cell (o := 1) (by omega)
    simp only [meCell] at m0 m1
    have hbl := hb3.lt
    cases o with
    | error er =>
      have hv : v = .returned (trErr er) := hP
      subst hv
      have hne := hM.err
      have t1 : (er.1 != 0) = true := by simpa using hne
      have HM : Hid _ := hM
      clear hM hne hP
      unfold trErr
      go_wp2_with fail
      refine (refusedF_any er.1 (er.2 : Nat) _).mono ?_
      rintro v w4 ⟨rfl, f4⟩
      have k4 := ((Fr.refl (fun _ => False) w3).alloc (.cells #[.slice none 0 0, .int .i64 (-1), .int .i64 0, .int .i64 er.1, .int .i64 (er.2 : Nat)] 148)).trans f4 (fun _ _ h => h)
      have hRc4 := hRc3.frame k4 (fun h => h)
      have F4 := F3.trans k4 (fun _ _ h => h.elim)
      have hE4 : ME w4 m sx mc sp (G + 1) K := ⟨⟨c3, c4, by omega, by omega, hb3.frame k4 (fun h => h)⟩, ⟨c + 1, by omega, hs3.frame k4 (fun h => h)⟩, ⟨d, by omega, hm3.frame k4 (fun h => h) (fun h => h)⟩, ap.1, ap.2.1, ap.2.2.1, by have := k4.size; omega⟩
      have q0 := hRc4.cell (o := 0) (by omega)
      have q1 := hRc4.cell (o := 1) (by omega)
      have q2 := hRc4.cell (o := 2) (by omega)
      have q3 := hRc4.cell (o := 3) (by omega)
      have q4 := hRc4.cell (o := 4) (by omega)
      have q5 := hRc4.cell (o := 5) (by omega)
      have q6 := hRc4.cell (o := 6) (by omega)
      have q7 := hRc4.cell (o := 7) (by omega)
      have q8 := hRc4.cell (o := 8) (by omega)
      have q9 := hRc4.cell (o := 9) (by omega)
      have q10 := hRc4.cell (o := 10) (by omega)
      have zR := hRc4.frozen
      have lR := hRc4.lt
      rw [foundV_no]
      go_wp2_with fail
      have e11 := cells11 hRc4 (.int .i64 er.1) (.int .i64 (er.2 : Nat)) (.bool false) (.int .i64 (-1)) (.int .i64 (-1)) (.int .i64 (-1)) (.int .i64 (-1)) (.int .i64 (-1)) (.int .i64 (-1)) (.int .i64 (-1)) (.int .i64 (-1))
      have k5 := fr11 w4 w.heap.size (.int .i64 er.1) (.int .i64 (er.2 : Nat)) (.bool false) (.int .i64 (-1)) (.int .i64 (-1)) (.int .i64 (-1)) (.int .i64 (-1)) (.int .i64 (-1)) (.int .i64 (-1)) (.int .i64 (-1)) (.int .i64 (-1))
      have r0 := e11.cell (o := 0) (by omega)
      have r1 := e11.cell (o := 1) (by omega)
      have r2 := e11.cell (o := 2) (by omega)
      have r3 := e11.cell (o := 3) (by omega)
      have r4 := e11.cell (o := 4) (by omega)
      have r5 := e11.cell (o := 5) (by omega)
      have r6 := e11.cell (o := 6) (by omega)
      have r7 := e11.cell (o := 7) (by omega)
      have r8 := e11.cell (o := 8) (by omega)
      have r9 := e11.cell (o := 9) (by omega)
      have r10 := e11.cell (o := 10) (by omega)
      simp only [get11] at r0 r1 r2 r3 r4 r5 r6 r7 r8 r9 r10
      have FF := F4.trans k5 (fun c hl hc => by omega)
      have KK : ME _ m sx mc sp (G + 1) K := hE4.frame k5 (fun c hc e => by have := h.lt hc; omega)
      exact bodyPost_ret (v := foundV er.1 (er.2 : Nat) false noC) (by simp [results, Tryz.results54, go_sem, foundV, noC, r0, r1, r2, r3, r4, r5, r6, r7, r8, r9, r10]) rfl ⟨⟨_, _, none, rfl, .err hps hss HM.out rfl⟩, KK, FF⟩
    | ok t =>
      obtain ⟨ns, y, g⟩ := t
      obtain ⟨bk, hbk, hv, ft, htb, hth⟩ := hP
      subst hv
      have HM : Hid _ := hM
      have kT := (Fr.refl (fun _ => False) w3).alloc (.cells #[.slice (some ⟨bk, 0, none⟩) ns.length ns.length, .int .i64 (y : Nat), .int .i64 (g : Nat), .int .i64 0, .int .i64 0] 148)
      have hT3 := treeB w3 (.slice (some ⟨bk, 0, none⟩) ns.length ns.length) (y : Nat) (g : Nat) 0 0
      have hm4 := hm3.frame kT (fun h => h) (fun h => h)
      have hbkl := htb.lt
      clear hM
      go_wp2_with fail
      refine (coreM_any hm4 (by omega) p).mono ?_
      rintro v w4 ⟨o2, hM2, hP2, hm5, f4⟩
      obtain rfl := ModelL.det HM.out hM2
      clear hM2
      have hz4 := f4.size
      simp only [World.size_alloc] at hz4
      have hT4 := hT3.frame f4 (fun e => by omega)
      have q0 := hT4.cell (o := 0) (by omega)
      have q1 := hT4.cell (o := 1) (by omega)
      have q2 := hT4.cell (o := 2) (by omega)
      have q3 := hT4.cell (o := 3) (by omega)
      have q4 := hT4.cell (o := 4) (by omega)
      have hTl := hT4.lt
      have k4 := (kT.mono (S' := fun b => b = mc ∨ b = sp) (fun _ _ h => h.elim)).trans f4 (fun _ _ h => h)
      have hRc4 := hRc3.frame k4 (fun e => by omega)
      have F4 := F3.trans k4 (fun c _ e => by unfold MO; omega)
      have hE4 : ME w4 m sx mc sp (G + 1) K := ⟨⟨c3, c4, by omega, by omega, hb3.frame k4 (fun e => by omega)⟩, ⟨c + 1, by omega, hs3.frame k4 (fun e => by omega)⟩, ⟨d + 1, by omega, hm5⟩, ap.1, ap.2.1, ap.2.2.1, by omega⟩
      by_cases hz : (zz ns y).2 ≤ 31
      · obtain ⟨code, r, _, hT, hW, _⟩ := compiled HM.out hz
        have hN : NPAt w4 bk ns := (hth.at htb (Nat.le_refl _)).frame k4 (fun e => by omega)
        simp only [coreO] at hP2
        rw [if_neg (by omega)] at hP2
        obtain ⟨b2, hb2, hv, _⟩ := hP2
        subst hv
        have kU := (Fr.refl (fun _ => False) w4).alloc (.cells #[.slice (some ⟨b2, 0, none⟩) (coreL ns y).length (coreL ns y).length, .int .i64 (((coreL ns y).length - 1 : Nat) : Int), .int .i64 (g : Nat), .int .i64 0, .int .i64 0] 148)
        go_wp2_with fail
        refine (left_any hT hW (hN.frame kU (fun h => h)) (by simp only [World.size_alloc]; omega) fr).mono ?_
        rintro v w6 ⟨rfl, f6⟩
        have k6 := kU.trans f6 (fun _ _ h => h)
        have hRc6 := hRc4.frame k6 (fun h => h)
        have F6 := F4.trans k6 (fun _ _ h => h.elim)
        have hE6 := hE4.frame k6 (fun _ _ h => h)
        have H3 : Hid _ := And.intro hz (And.intro hT hW)
        clear hT hW hz q0 q1 q2 q3 q4
        have q0 := hRc6.cell (o := 0) (by omega)
        have q1 := hRc6.cell (o := 1) (by omega)
        have q2 := hRc6.cell (o := 2) (by omega)
        have q3 := hRc6.cell (o := 3) (by omega)
        have q4 := hRc6.cell (o := 4) (by omega)
        have q5 := hRc6.cell (o := 5) (by omega)
        have q6 := hRc6.cell (o := 6) (by omega)
        have q7 := hRc6.cell (o := 7) (by omega)
        have q8 := hRc6.cell (o := 8) (by omega)
        have q9 := hRc6.cell (o := 9) (by omega)
        have q10 := hRc6.cell (o := 10) (by omega)
        have zR := hRc6.frozen
        have lR := hRc6.lt
        unfold foundV
        go_wp2_with fail
        have e11 := cells11 hRc6 (.int .i64 (lfE s fr)) (.int .i64 0) (.bool (okOf (lfO s fr (wy s r)))) (.int .i64 (cpOf (lfO s fr (wy s r)) 0)) (.int .i64 (cpOf (lfO s fr (wy s r)) 1)) (.int .i64 (cpOf (lfO s fr (wy s r)) 2)) (.int .i64 (cpOf (lfO s fr (wy s r)) 3)) (.int .i64 (cpOf (lfO s fr (wy s r)) 4)) (.int .i64 (cpOf (lfO s fr (wy s r)) 5)) (.int .i64 (cpOf (lfO s fr (wy s r)) 6)) (.int .i64 (cpOf (lfO s fr (wy s r)) 7))
        have k5 := fr11 w6 w.heap.size (.int .i64 (lfE s fr)) (.int .i64 0) (.bool (okOf (lfO s fr (wy s r)))) (.int .i64 (cpOf (lfO s fr (wy s r)) 0)) (.int .i64 (cpOf (lfO s fr (wy s r)) 1)) (.int .i64 (cpOf (lfO s fr (wy s r)) 2)) (.int .i64 (cpOf (lfO s fr (wy s r)) 3)) (.int .i64 (cpOf (lfO s fr (wy s r)) 4)) (.int .i64 (cpOf (lfO s fr (wy s r)) 5)) (.int .i64 (cpOf (lfO s fr (wy s r)) 6)) (.int .i64 (cpOf (lfO s fr (wy s r)) 7))
        have r0 := e11.cell (o := 0) (by omega)
        have r1 := e11.cell (o := 1) (by omega)
        have r2 := e11.cell (o := 2) (by omega)
        have r3 := e11.cell (o := 3) (by omega)
        have r4 := e11.cell (o := 4) (by omega)
        have r5 := e11.cell (o := 5) (by omega)
        have r6 := e11.cell (o := 6) (by omega)
        have r7 := e11.cell (o := 7) (by omega)
        have r8 := e11.cell (o := 8) (by omega)
        have r9 := e11.cell (o := 9) (by omega)
        have r10 := e11.cell (o := 10) (by omega)
        simp only [get11] at r0 r1 r2 r3 r4 r5 r6 r7 r8 r9 r10
        have FF := F6.trans k5 (fun c hl hc => by omega)
        have KK : ME _ m sx mc sp (G + 1) K := hE6.frame k5 (fun c hc e => by have := h.lt hc; omega)
        exact bodyPost_ret (v := foundV (lfE s fr) 0 (okOf (lfO s fr (wy s r))) (cpOf (lfO s fr (wy s r)))) (by simp [results, Tryz.results54, go_sem, foundV, r0, r1, r2, r3, r4, r5, r6, r7, r8, r9, r10]) rfl ⟨⟨_, _, lfO s fr (wy s r), rfl, .ok hps hss HM.out H3.out.1 H3.out.2.1 H3.out.2.2⟩, KK, FF⟩
      · simp only [coreO] at hP2
        rw [if_pos (by omega)] at hP2
        have hv : v = .returned (trErr (8, 0)) := hP2
        subst hv
        unfold trErr
        have kU := (Fr.refl (fun _ => False) w4).alloc (.cells #[.slice none 0 0, .int .i64 (-1), .int .i64 0, .int .i64 8, .int .i64 0] 148)
        go_wp2_with fail
        refine (refusedF_any 8 0 _).mono ?_
        rintro v w6 ⟨rfl, f6⟩
        have k6 := kU.trans f6 (fun _ _ h => h)
        have hRc6 := hRc4.frame k6 (fun h => h)
        have F6 := F4.trans k6 (fun _ _ h => h.elim)
        have hE6 := hE4.frame k6 (fun _ _ h => h)
        clear q0 q1 q2 q3 q4
        have q0 := hRc6.cell (o := 0) (by omega)
        have q1 := hRc6.cell (o := 1) (by omega)
        have q2 := hRc6.cell (o := 2) (by omega)
        have q3 := hRc6.cell (o := 3) (by omega)
        have q4 := hRc6.cell (o := 4) (by omega)
        have q5 := hRc6.cell (o := 5) (by omega)
        have q6 := hRc6.cell (o := 6) (by omega)
        have q7 := hRc6.cell (o := 7) (by omega)
        have q8 := hRc6.cell (o := 8) (by omega)
        have q9 := hRc6.cell (o := 9) (by omega)
        have q10 := hRc6.cell (o := 10) (by omega)
        have zR := hRc6.frozen
        have lR := hRc6.lt
        rw [foundV_no]
        go_wp2_with fail
        have e11 := cells11 hRc6 (.int .i64 8) (.int .i64 0) (.bool false) (.int .i64 (-1)) (.int .i64 (-1)) (.int .i64 (-1)) (.int .i64 (-1)) (.int .i64 (-1)) (.int .i64 (-1)) (.int .i64 (-1)) (.int .i64 (-1))
        have k5 := fr11 w6 w.heap.size (.int .i64 8) (.int .i64 0) (.bool false) (.int .i64 (-1)) (.int .i64 (-1)) (.int .i64 (-1)) (.int .i64 (-1)) (.int .i64 (-1)) (.int .i64 (-1)) (.int .i64 (-1)) (.int .i64 (-1))
        have r0 := e11.cell (o := 0) (by omega)
        have r1 := e11.cell (o := 1) (by omega)
        have r2 := e11.cell (o := 2) (by omega)
        have r3 := e11.cell (o := 3) (by omega)
        have r4 := e11.cell (o := 4) (by omega)
        have r5 := e11.cell (o := 5) (by omega)
        have r6 := e11.cell (o := 6) (by omega)
        have r7 := e11.cell (o := 7) (by omega)
        have r8 := e11.cell (o := 8) (by omega)
        have r9 := e11.cell (o := 9) (by omega)
        have r10 := e11.cell (o := 10) (by omega)
        simp only [get11] at r0 r1 r2 r3 r4 r5 r6 r7 r8 r9 r10
        have FF := F6.trans k5 (fun c hl hc => by omega)
        have KK : ME _ m sx mc sp (G + 1) K := hE6.frame k5 (fun c hc e => by have := h.lt hc; omega)
        exact bodyPost_ret (v := foundV 8 0 false noC) (by simp [results, Tryz.results54, go_sem, foundV, noC, r0, r1, r2, r3, r4, r5, r6, r7, r8, r9, r10]) rfl ⟨⟨_, _, none, rfl, .err (e := (8, 0)) hps hss HM.out (by simp only [coreO]; rw [if_pos (by omega)])⟩, KK, FF⟩
end
end Go.Proofs.Qxb6500283aGreat
