import Derived.Test.Qxb6500283aGreatDfD2
namespace Go.Proofs.Qxb6500283aGreat
open Go Go.RowKit

theorem eps_of {p : List In} {b e : Bool} {q : Nat} (hq : q < p.length) {r : Nat} : eps p b e q r ↔
  ((p[q].op = 1 ∧ ((r : Int) = p[q].x ∨ (r : Int) = p[q].y)) ∨ (p[q].op = 2 ∧ (r : Int) = p[q].x) ∨ (p[q].op = 3 ∧ r = q + 1) ∨ (p[q].op = 4 ∧ b = true ∧ r = q + 1) ∨ (p[q].op = 5 ∧ e = true ∧ r = q + 1)) := by
  unfold eps
  constructor
  · rintro ⟨x, hx, h⟩
    rw [List.getElem?_eq_getElem hq] at hx
    cases hx
    exact h
  · exact fun h => ⟨p[q], List.getElem?_eq_getElem hq, h⟩
def workD (s : DS) : DS := { s with worked := s.worked + 1 }
theorem Mach.work {w : World} {x : Nat} {kv : Value} {s : DS} (h : Mach w x kv s) : Mach (w.setCell ⟨x, 15, none⟩ (.int .i64 (s.worked + 1))) x kv (workD s) :=
  h.setM 15 _ rfl rfl fun k hk => by rcases lt16 hk with rfl | rfl | rfl | rfl | rfl | rfl | rfl | rfl | rfl | rfl | rfl | rfl | rfl | rfl | rfl | rfl <;> simp [upd, mcell, workD]
/-- The kept program lies in block kb. -/
structure KeptD (w : World) (x : Nat) (kv : Value) (kb cap : Nat) (p : List In) : Prop where
  v : kv = .slice (some ⟨kb, 0, none⟩) p.length cap
  at_ : PAt w kb p
  far : ¬ mOwn x kb
  ok : OkProg p
theorem KeptD.frame {S : Nat → Prop} {w w' : World} {x : Nat} {kv : Value} {kb cap : Nat} {p : List In} (h : KeptD w x kv kb cap p) (k : Fr S w w') (hS : ¬ S kb) : KeptD w' x kv kb cap p := ⟨h.v, h.at_.frame k hS, h.far, h.ok⟩

def CloPost (w : World) (x : Nat) (kv : Value) (s : DS) (p : List In) (seeds : Nat) (b e : Bool) : Ending → World → Prop := fun r w' =>
  ∃ S stk', r = .returned (.int .u64 (S : Nat)) ∧ S < 18446744073709551616 ∧ (∀ q, S.testBit q = true ↔ Clo p b e (fun q => q < p.length ∧ seeds.testBit q = true) q) ∧ (∀ q, S.testBit q = true → q < p.length) ∧ Mach w' x kv { s with stk := stk', worked := s.worked + 1 } ∧ Fr (mOwn x) w w'

set_option maxRecDepth 100000 in
set_option maxHeartbeats 8000000 in
theorem closure_any {w : World} {x : Nat} {kv : Value} {s : DS} {kb cap : Nat} {p : List In} (h : Mach w x kv s) (hk : KeptD w x kv kb cap p) (seeds : Nat) (hseeds : seeds < 18446744073709551616) (hw : s.worked < 1000000000000000000) (b e : Bool) :
    Calls Tryz.prog 96 #[.pointer (some ⟨x, 0, none⟩), .int .u64 seeds, .bool b, .bool e] w (CloPost w x kv s p seeds b e) := by
  have hm := hk.ok.max
  have c15 : w.cell? ⟨x, 15, none⟩ = some (.int .i64 s.worked) := h.main.cell (by omega)
  have z0 := h.main.frozen
  have k1 := h.work
  have f1 : Fr (mOwn x) w (w.setCell ⟨x, 15, none⟩ (.int .i64 (s.worked + 1))) := (Fr.refl _ _).mset0 _ _
  have K1 : Hid _ := k1
  clear k1
  go_enter Tryz.func96, Tryz.ntmps96
  go_wp2_with fail
  go_loopg [9, 10, 11] p.length (fun g sv spv pv wr => ∃ (set sp pc : Nat) (stk : Nat → Int), sv = .int .u64 set ∧ spv = .int .i64 sp ∧ pv = .int .i64 pc ∧ pc + g = p.length ∧
     CI p b e (fun q => q < p.length ∧ seeds.testBit q = true) (fun _ => False) set sp stk ∧ (∀ q, q < pc → seeds.testBit q = true → set.testBit q = true) ∧ Mach wr x kv { s with stk := stk, worked := s.worked + 1 } ∧ Fr (mOwn x) w wr)
  case atStart =>
    refine ⟨0, 0, 0, s.stk, rfl, rfl, rfl, by omega, ⟨by omega, fun q hq => by simp at hq, by omega, fun j hj => by omega, fun q hq => by simp at hq⟩, fun q hq => by omega, K1.out, f1⟩
  case round =>
    obtain ⟨set, sp, pc, stk, rfl, rfl, rfl, hg, hci, hall, hM, hfr⟩ := hrel
    have hg' : pc + gk = p.length := hg
    have d0 : wr.cell? ⟨x, 0, none⟩ = some (.slice (some ⟨kb, 0, none⟩) p.length cap) := by rw [hM.main.cell (by omega)]; exact congrArg _ hk.v
    clear hg c15 z0
    by_cases hlt : pc < p.length
    · have hp64 : pc < 64 := by omega
      go_wp2_with fail
      refine (bit_any pc hp64 _).mono ?_
      rintro r w2 ⟨rfl, rfl⟩
      cases ht : seeds.testBit pc with
      | false =>
        have a1 := and_no hseeds hp64 ht
        go_wp2_with fail
        go_roundg (gk - 1)
        case measure => omega
        case rel =>
          refine ⟨set, sp, pc + 1, stk, rfl, rfl, by simp, by omega, hci, fun q hq h1 => ?_, hM, hfr⟩
          rcases Nat.lt_or_ge q pc with h2 | h2
          · exact hall q h2 h1
          · have : q = pc := by omega
            subst this; rw [ht] at h1; cases h1
      | true =>
        have a1 := and_yes hseeds hp64 ht
        have a2 := bv_ne pc
        have a3 := bv_ne' pc
        go_wp2_with fail
        refine (pushD_any hM set sp pc hci.lt hp64 hci.spc).mono ?_
        rintro r w3 ⟨rfl, hM3, f3⟩
        go_wp2_with fail
        go_roundg (gk - 1)
        case measure => omega
        case rel =>
          refine ⟨_, _, pc + 1, _, rfl, rfl, by simp, by omega, hci.push hk.ok hlt (Clo.base ⟨hlt, ht⟩), fun q hq h1 => ?_, hM3, hfr.trans f3 (fun _ _ h => h)⟩
          rcases Nat.lt_or_ge q pc with h2 | h2
          · exact push3_mono _ _ _ _ _ (hall q h2 h1)
          · have : q = pc := by omega
            subst this; exact push3_has _ _ _ _
    · have Hall : Hid (∀ q, q < p.length ∧ seeds.testBit q = true → set.testBit q = true) := fun q hq => hall q (by omega) hq.2
      clear hall
      go_wp2_with fail
      go_loopg [9, 10] (toDo set sp) (fun g sv spv wr2 => ∃ (set2 sp2 : Nat) (stk2 : Nat → Int), sv = .int .u64 set2 ∧ spv = .int .i64 sp2 ∧ toDo set2 sp2 ≤ g ∧
         CI p b e (fun q => q < p.length ∧ seeds.testBit q = true) (fun _ => False) set2 sp2 stk2 ∧ (∀ q, q < p.length ∧ seeds.testBit q = true → set2.testBit q = true) ∧ Mach wr2 x kv { s with stk := stk2, worked := s.worked + 1 } ∧ Fr (mOwn x) w wr2)
      case atStart => exact ⟨set, sp, stk, rfl, rfl, Nat.le_refl _, hci, Hall.out, hM, hfr⟩
      case round =>
        clear hci hM hfr d0 Hall
        obtain ⟨set, sp, stk, rfl, rfl, hg, hci, hall, hM, hfr⟩ := hrel
        have Hall : Hid _ := hall
        have Hg : Hid _ := hg
        clear hall hg
        by_cases hsp : sp = 0
        · subst hsp
          go_wp2_with fail
          go_ret
          exact ⟨set, stk, rfl, hci.lt, hci.fin Hall.out, fun q hq => (hci.reach q hq).1, hM, hfr⟩
        · obtain ⟨sp', rfl⟩ : ∃ k, sp = k + 1 := ⟨sp - 1, by omega⟩
          obtain ⟨q, hq, hql, hqs⟩ := hci.stack sp' (by omega)
          have hsp64 : sp' < 64 := by have := hci.spc; have := cnt_le set; omega
          have hci1 := hci.pop hq
          have hreach := (hci.reach q hqs).2
          have e1 : wr.cell? ⟨x + 2, sp', none⟩ = some (.int .i64 q) := by rw [← hq]; exact hM.st.cell hsp64
          have e12 : wr.cell? ⟨x, 12, none⟩ = some (.slice (some ⟨x + 2, 0, none⟩) 64 64) := hM.main.cell (by omega)
          have e0 : wr.cell? ⟨x, 0, none⟩ = some (.slice (some ⟨kb, 0, none⟩) p.length cap) := by rw [hM.main.cell (by omega)]; exact congrArg _ hk.v
          have hk2 := hk.frame hfr hk.far
          have i0 := hk2.at_ q hql 0 (by omega)
          have i1 := hk2.at_ q hql 1 (by omega)
          have i2 := hk2.at_ q hql 2 (by omega)
          have i3 := hk2.at_ q hql 3 (by omega)
          have i4 := hk2.at_ q hql 4 (by omega)
          have i5 := hk2.at_ q hql 5 (by omega)
          have i6 := hk2.at_ q hql 6 (by omega)
          simp only [inCell, Nat.add_zero] at i0 i1 i2 i3 i4 i5 i6
          have hokq := hk.ok.all q hql
          have Heps : Hid (∀ r, eps p b e q r ↔ _) := fun r => eps_of hql
          have htd : toDo set (sp' + 1) = toDo set sp' + 1 := by unfold toDo; omega
          have Htd : Hid _ := htd
          clear htd
          obtain ⟨I, hI⟩ : ∃ I, I = p[q] := ⟨_, rfl⟩
          have HI : Hid _ := hI
          rw [← hI] at i0 i1 i2 i3 i4 i5 i6 hokq
          have hq64 : q < 64 := by omega
          clear hsp hq hqs hI
          have hcase : I.op = 1 ∨ I.op = 2 ∨ I.op = 3 ∨ I.op = 4 ∨ I.op = 5 ∨ I.op = 0 ∨ I.op = 6 := by unfold okIn at hokq; omega
          rcases hcase with o | o | o | o | o | o | o
          · -- two roads
            have hx : 0 ≤ I.x ∧ I.x < p.length ∧ 0 ≤ I.y ∧ I.y < p.length := by unfold okIn at hokq; omega
            obtain ⟨a, ha⟩ := Int.eq_ofNat_of_zero_le hx.1
            obtain ⟨c, hc⟩ := Int.eq_ofNat_of_zero_le hx.2.2.1
            rw [o] at i0
            rw [ha] at i1
            rw [hc] at i2
            have hal : a < p.length := by omega
            have hcl : c < p.length := by omega
            have ra : Clo p b e (fun q => q < p.length ∧ seeds.testBit q = true) a := hreach.step ((Heps.out a).2 (by rw [← HI.out]; exact .inl ⟨o, .inl ha.symm⟩))
            have rc : Clo p b e (fun q => q < p.length ∧ seeds.testBit q = true) c := hreach.step ((Heps.out c).2 (by rw [← HI.out]; exact .inl ⟨o, .inr hc.symm⟩))
            have Hd : Hid (∀ r, eps p b e q r → r = a ∨ r = c) := fun r hr => by
              have := (Heps.out r).1 hr
              rw [← HI.out] at this
              omega
            clear o ha hc hx hokq
            have hM1 := hM.alloc (.cells #[.int .i64 1, .int .i64 a, .int .i64 c, .int .u64 I.s0, .int .u64 I.s1, .int .u64 I.s2, .int .u64 I.s3] 185)
            have fA := hfr.alloc (.cells #[.int .i64 1, .int .i64 a, .int .i64 c, .int .u64 I.s0, .int .u64 I.s1, .int .u64 I.s2, .int .u64 I.s3] 185)
            have hxl := hM.lt
            go_wp2_with fail
            refine (pushD_any hM1 set sp' a hci1.lt (by omega) hci1.spc).mono ?_
            rintro r w3 ⟨rfl, hM3, f3⟩
            have hci3 := hci1.push hk.ok hal ra
            have q2 : w3.cell? ⟨wr.heap.size, 2, none⟩ = some (.int .i64 c) := f3.newCell (by unfold mOwn; omega) 2
            have td3 := toDo_push set sp' stk a (by omega)
            have hs3 := push3_has set sp' stk a
            obtain ⟨s3, hs3'⟩ : ∃ y, y = push3 set sp' stk a := ⟨_, rfl⟩
            have hM3' : Mach w3 x kv { s with stk := s3.2.2, worked := s.worked + 1 } := by rw [hs3']; exact hM3
            have HS3 : Hid _ := hs3'
            rw [← hs3'] at hci3 td3 hs3
            have eR : (.tuple #[.int .u64 ((push3 set sp' stk a).1 : Nat), .int .i64 ((push3 set sp' stk a).2.1 : Nat)] : Value) = .tuple #[.int .u64 (s3.1 : Nat), .int .i64 (s3.2.1 : Nat)] := by rw [hs3']
            clear hs3' hM3
            simp only [← HS3.out]
            clear eR
            go_wp2_with fail
            refine (pushD_any hM3' s3.1 s3.2.1 c hci3.lt (by omega) hci3.spc).mono ?_
            rintro r w4 ⟨rfl, hM4, f4⟩
            have hci4 := hci3.push hk.ok hcl rc
            have td4 := toDo_push s3.1 s3.2.1 s3.2.2 c (by omega)
            go_wp2_with fail
            go_roundg (gk - 1)
            case measure => have := Hg.out; have := Htd.out; omega
            case rel =>
              refine ⟨_, _, _, rfl, rfl, ?_, hci4.done fun r hr => ?_, fun t ht => push3_mono _ _ _ _ _ ?_, hM4, (fA.trans f3 (fun _ _ h => h)).trans f4 (fun _ _ h => h)⟩
              · have := Hg.out; have := Htd.out
                show toDo (push3 s3.1 s3.2.1 s3.2.2 c).1 (push3 s3.1 s3.2.1 s3.2.2 c).2.1 ≤ _
                omega
              · rcases Hd.out r hr with rfl | rfl
                · exact push3_mono _ _ _ _ _ hs3
                · exact push3_has _ _ _ _
              · rw [HS3.out]; exact push3_mono _ _ _ _ _ (Hall.out t ht)
          · -- one road on
            have hx : 0 ≤ I.x ∧ I.x < p.length := by unfold okIn at hokq; omega
            obtain ⟨a, ha⟩ := Int.eq_ofNat_of_zero_le hx.1
            rw [ha] at i1
            have hal : a < p.length := by omega
            rw [o] at i0
            have ra : Clo p b e (fun q => q < p.length ∧ seeds.testBit q = true) a := hreach.step ((Heps.out a).2 (by rw [← HI.out]; exact .inr (.inl ⟨o, ha.symm⟩)))
            have Hd : Hid (∀ r, eps p b e q r → r = a) := fun r hr => by
              have := (Heps.out r).1 hr
              rw [← HI.out] at this
              omega
            clear o hokq ha hx
            have hM1 := hM.alloc (.cells #[.int .i64 2, .int .i64 a, .int .i64 I.y, .int .u64 I.s0, .int .u64 I.s1, .int .u64 I.s2, .int .u64 I.s3] 185)
            have fA := hfr.alloc (.cells #[.int .i64 2, .int .i64 a, .int .i64 I.y, .int .u64 I.s0, .int .u64 I.s1, .int .u64 I.s2, .int .u64 I.s3] 185)
            have hxl := hM.lt
            go_wp2_with fail
            refine (pushD_any hM1 set sp' a hci1.lt (by omega) hci1.spc).mono ?_
            rintro r w3 ⟨rfl, hM3, f3⟩
            have hci3 := hci1.push hk.ok hal ra
            have td3 := toDo_push set sp' stk a (by omega)
            go_wp2_with fail
            go_roundg (gk - 1)
            case measure => have := Hg.out; have := Htd.out; omega
            case rel =>
              refine ⟨_, _, _, rfl, rfl, ?_, hci3.done fun r hr => ?_, fun t ht => push3_mono _ _ _ _ _ (Hall.out t ht), hM3, fA.trans f3 (fun _ _ h => h)⟩
              · have := Hg.out; have := Htd.out
                show toDo (push3 set sp' stk a).1 (push3 set sp' stk a).2.1 ≤ _
                omega
              · rw [Hd.out r hr]; exact push3_has _ _ _ _
          · -- one road on
            have hx : q + 1 < p.length := by unfold okIn at hokq; omega

            rw [o] at i0
            have ra : Clo p b e (fun q => q < p.length ∧ seeds.testBit q = true) (q + 1) := hreach.step ((Heps.out (q + 1)).2 (by rw [← HI.out]; exact .inr (.inr (.inl ⟨o, rfl⟩))))
            have Hd : Hid (∀ r, eps p b e q r → r = (q + 1)) := fun r hr => by
              have := (Heps.out r).1 hr
              rw [← HI.out] at this
              omega
            clear o hokq
            have hM1 := hM.alloc (.cells #[.int .i64 3, .int .i64 I.x, .int .i64 I.y, .int .u64 I.s0, .int .u64 I.s1, .int .u64 I.s2, .int .u64 I.s3] 185)
            have fA := hfr.alloc (.cells #[.int .i64 3, .int .i64 I.x, .int .i64 I.y, .int .u64 I.s0, .int .u64 I.s1, .int .u64 I.s2, .int .u64 I.s3] 185)
            have hxl := hM.lt
            go_wp2_with fail
            refine (pushD_any hM1 set sp' (q + 1) hci1.lt (by omega) hci1.spc).mono ?_
            rintro r w3 ⟨rfl, hM3, f3⟩
            have hci3 := hci1.push hk.ok hx ra
            have td3 := toDo_push set sp' stk (q + 1) (by omega)
            go_wp2_with fail
            go_roundg (gk - 1)
            case measure => have := Hg.out; have := Htd.out; omega
            case rel =>
              refine ⟨_, _, _, rfl, rfl, ?_, hci3.done fun r hr => ?_, fun t ht => push3_mono _ _ _ _ _ (Hall.out t ht), hM3, fA.trans f3 (fun _ _ h => h)⟩
              · have := Hg.out; have := Htd.out
                show toDo (push3 set sp' stk (q + 1)).1 (push3 set sp' stk (q + 1)).2.1 ≤ _
                omega
              · rw [Hd.out r hr]; exact push3_has _ _ _ _
          · cases b with
            | true =>
              have hx : q + 1 < p.length := by unfold okIn at hokq; omega

              rw [o] at i0
              have ra : Clo p true e (fun q => q < p.length ∧ seeds.testBit q = true) (q + 1) := hreach.step ((Heps.out (q + 1)).2 (by rw [← HI.out]; exact .inr (.inr (.inr (.inl ⟨o, rfl, rfl⟩)))))
              have Hd : Hid (∀ r, eps p true e q r → r = (q + 1)) := fun r hr => by
                have := (Heps.out r).1 hr
                rw [← HI.out] at this
                omega
              clear o hokq
              have hM1 := hM.alloc (.cells #[.int .i64 4, .int .i64 I.x, .int .i64 I.y, .int .u64 I.s0, .int .u64 I.s1, .int .u64 I.s2, .int .u64 I.s3] 185)
              have fA := hfr.alloc (.cells #[.int .i64 4, .int .i64 I.x, .int .i64 I.y, .int .u64 I.s0, .int .u64 I.s1, .int .u64 I.s2, .int .u64 I.s3] 185)
              have hxl := hM.lt
              go_wp2_with fail
              refine (pushD_any hM1 set sp' (q + 1) hci1.lt (by omega) hci1.spc).mono ?_
              rintro r w3 ⟨rfl, hM3, f3⟩
              have hci3 := hci1.push hk.ok hx ra
              have td3 := toDo_push set sp' stk (q + 1) (by omega)
              go_wp2_with fail
              go_roundg (gk - 1)
              case measure => have := Hg.out; have := Htd.out; omega
              case rel =>
                refine ⟨_, _, _, rfl, rfl, ?_, hci3.done fun r hr => ?_, fun t ht => push3_mono _ _ _ _ _ (Hall.out t ht), hM3, fA.trans f3 (fun _ _ h => h)⟩
                · have := Hg.out; have := Htd.out
                  show toDo (push3 set sp' stk (q + 1)).1 (push3 set sp' stk (q + 1)).2.1 ≤ _
                  omega
                · rw [Hd.out r hr]; exact push3_has _ _ _ _
            | false =>
              rw [o] at i0
              have Hd : Hid (∀ r, ¬ eps p false e q r) := fun r hr => by
                have := (Heps.out r).1 hr
                rw [← HI.out] at this
                simp at this
                omega
              clear o hokq
              go_wp2_with fail
              go_roundg (gk - 1)
              case measure => have := Hg.out; have := Htd.out; omega
              case rel =>
                refine ⟨set, sp', stk, rfl, rfl, ?_, hci1.done fun r hr => absurd hr (Hd.out r), Hall.out, hM.alloc _, hfr.alloc _⟩
                have := Hg.out; have := Htd.out
                omega
          · cases e with
            | true =>
              have hx : q + 1 < p.length := by unfold okIn at hokq; omega

              rw [o] at i0
              have ra : Clo p b true (fun q => q < p.length ∧ seeds.testBit q = true) (q + 1) := hreach.step ((Heps.out (q + 1)).2 (by rw [← HI.out]; exact .inr (.inr (.inr (.inr ⟨o, rfl, rfl⟩)))))
              have Hd : Hid (∀ r, eps p b true q r → r = (q + 1)) := fun r hr => by
                have := (Heps.out r).1 hr
                rw [← HI.out] at this
                omega
              clear o hokq
              have hM1 := hM.alloc (.cells #[.int .i64 5, .int .i64 I.x, .int .i64 I.y, .int .u64 I.s0, .int .u64 I.s1, .int .u64 I.s2, .int .u64 I.s3] 185)
              have fA := hfr.alloc (.cells #[.int .i64 5, .int .i64 I.x, .int .i64 I.y, .int .u64 I.s0, .int .u64 I.s1, .int .u64 I.s2, .int .u64 I.s3] 185)
              have hxl := hM.lt
              go_wp2_with fail
              refine (pushD_any hM1 set sp' (q + 1) hci1.lt (by omega) hci1.spc).mono ?_
              rintro r w3 ⟨rfl, hM3, f3⟩
              have hci3 := hci1.push hk.ok hx ra
              have td3 := toDo_push set sp' stk (q + 1) (by omega)
              go_wp2_with fail
              go_roundg (gk - 1)
              case measure => have := Hg.out; have := Htd.out; omega
              case rel =>
                refine ⟨_, _, _, rfl, rfl, ?_, hci3.done fun r hr => ?_, fun t ht => push3_mono _ _ _ _ _ (Hall.out t ht), hM3, fA.trans f3 (fun _ _ h => h)⟩
                · have := Hg.out; have := Htd.out
                  show toDo (push3 set sp' stk (q + 1)).1 (push3 set sp' stk (q + 1)).2.1 ≤ _
                  omega
                · rw [Hd.out r hr]; exact push3_has _ _ _ _
            | false =>
              rw [o] at i0
              have Hd : Hid (∀ r, ¬ eps p b false q r) := fun r hr => by
                have := (Heps.out r).1 hr
                rw [← HI.out] at this
                simp at this
                omega
              clear o hokq
              go_wp2_with fail
              go_roundg (gk - 1)
              case measure => have := Hg.out; have := Htd.out; omega
              case rel =>
                refine ⟨set, sp', stk, rfl, rfl, ?_, hci1.done fun r hr => absurd hr (Hd.out r), Hall.out, hM.alloc _, hfr.alloc _⟩
                have := Hg.out; have := Htd.out
                omega
          · -- nothing
            rw [o] at i0
            have Hd : Hid (∀ r, ¬ eps p b e q r) := fun r hr => by
              have := (Heps.out r).1 hr
              rw [← HI.out] at this
              omega
            clear o hokq
            go_wp2_with fail
            go_roundg (gk - 1)
            case measure => have := Hg.out; have := Htd.out; omega
            case rel =>
              refine ⟨set, sp', stk, rfl, rfl, ?_, hci1.done fun r hr => absurd hr (Hd.out r), Hall.out, hM.alloc _, hfr.alloc _⟩
              have := Hg.out; have := Htd.out
              omega
          · -- nothing
            rw [o] at i0
            have Hd : Hid (∀ r, ¬ eps p b e q r) := fun r hr => by
              have := (Heps.out r).1 hr
              rw [← HI.out] at this
              omega
            clear o hokq
            go_wp2_with fail
            go_roundg (gk - 1)
            case measure => have := Hg.out; have := Htd.out; omega
            case rel =>
              refine ⟨set, sp', stk, rfl, rfl, ?_, hci1.done fun r hr => absurd hr (Hd.out r), Hall.out, hM.alloc _, hfr.alloc _⟩
              have := Hg.out; have := Htd.out
              omega
end Go.Proofs.Qxb6500283aGreat
