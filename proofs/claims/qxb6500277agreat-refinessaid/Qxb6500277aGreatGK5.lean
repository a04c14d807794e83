/- The code generator: tablesFine. -/
import Derived.Test.Qxb6500277aGreatGK4
import Derived.Test.Qxb6500277aGreatGE22
namespace Go.Proofs.Qxb6500277aGreat
open Go Go.RowKit

/-- What Check wants of the tables. -/
structure CkT (B : Gb) : Prop where
  nl : B.entry.length ≤ 40000
  en : ∀ i, i < B.entry.length → ∃ e : Nat, B.entry[i]? = some ((e : Nat) : Int) ∧ ChA B.code e ∧ e < B.code.length ∧ byteAt B.code e = 25
  zz : B.entry.length = 0 ∨ ∃ i, i < B.entry.length ∧ B.entry[i]? = some 0
  rw' : ∀ k, k < B.calls.length → ∃ x, B.calls[k]? = some x ∧ 1 ≤ x.1 ∧ ChA B.code (x.1 - 1) ∧ x.1 + 2 ≤ B.code.length ∧ byteAt B.code (x.1 - 1) = 24 ∧ x.2 < B.entry.length ∧ B.entry[x.2]? = some ((u16V B.code x.1 : Nat) : Int)
theorem get_some {l : List Int} {i : Nat} {x : Int} (hi : i < l.length) (h : l[i]? = some x) : l[i] = x := by
  rw [List.getElem?_eq_getElem hi] at h
  injection h
set_option maxRecDepth 100000 in
set_option maxHeartbeats 2000000 in
theorem tablesK {w : World} {g ab : Nat} {P : Nat → Prop} {hd : Nat → Value} {B : Gb} (h : GX w g P hd B) (K : CkB B) (T : CkT B) (M : MkS w ab B.code.length B.code B.code.length) : Calls Tryz.prog 29 #[.pointer (some ⟨g, 0, none⟩), .slice (some ⟨ab, 0, none⟩) B.code.length B.code.length] w fun e w' => e = .returned (.bool true) ∧ Fr (fun _ => False) w w' := by
  obtain ⟨cv, hv, xv, ev, col, H⟩ := h
  obtain ⟨ea, ec, hee, hec⟩ := H.ent.sl
  have hle := K.le
  have hnl := T.nl
  have hxl : B.calls.length ≤ 3000 := Nat.le_trans H.xl K.le
  have c15 : w.cell? ⟨g, 15, none⟩ = some ev := H.cl (o := 15) (by omega)
  have glt := H.glt
  have HH : Hid (True ∧ _) := ⟨trivial, And.intro H (And.intro K (And.intro T (And.intro hee M)))⟩
  obtain ⟨n, hn⟩ : ∃ n, n = B.code.length := ⟨_, rfl⟩
  obtain ⟨m, hm⟩ : ∃ m, m = B.entry.length := ⟨_, rfl⟩
  have Hn : Hid (True ∧ _) := ⟨trivial, And.intro hn hm⟩
  rw [hee, ← hm] at c15
  rw [← hn] at hle
  rw [← hm] at hnl
  rw [← hn]
  have zm : (((m : Nat) : Int) == 0) = decide (m = 0) := by
    by_cases h : m = 0
    · subst h; rfl
    · rw [decide_eq_false h]; simp; exact h
  clear H K T hee hn hm hec M
  go_enter Tryz.func29, Tryz.ntmps29
  go_wp2_with fail
  go_loopg [5, 6] m (fun gm zv iv wr => ∃ (i : Nat) (β : Bool), iv = .int .i64 (i : Nat) ∧ zv = .bool β ∧ i + gm = m ∧ (β = true ↔ m = 0 ∨ ∃ j, j < i ∧ B.entry[j]? = some 0) ∧ Fr (fun _ => False) w wr)
  case atStart => exact ⟨0, decide (m = 0), rfl, by first | rfl | (rw [← zm]), by omega, by simp, Fr.refl _ _⟩
  case round =>
    obtain ⟨i, β, rfl, rfl, hg, hβ, Fw⟩ := hrel
    have hg' : i + gk = m := hg
    clear hg c15 glt zm
    obtain ⟨_, H, K, T, hee, M⟩ := HH.out
    obtain ⟨_, hn, hm⟩ := Hn.out
    have Hr := H.same Fw
    have c15 : wr.cell? ⟨g, 15, none⟩ = some ev := Hr.cl (o := 15) (by omega)
    have glt := Hr.glt
    by_cases hi : i < m
    · have z0 : decide ((i : Int) < (m : Nat)) = true := decide_eq_true (by omega)
      have hi' : i < B.entry.length := by omega
      obtain ⟨e, ee, ech, el, e25⟩ := T.en i hi'
      obtain ⟨eb, ec', eev, _, eblt, ecell, _⟩ := Hr.ent.set hi'
      rw [get_some hi' ee] at ecell
      rw [eev, ← hm] at c15
      have c12 : wr.cell? ⟨g, 12, none⟩ = some cv := Hr.cl (o := 12) (by omega)
      obtain ⟨cb, cc', ecv, hcl, hcs⟩ := Hr.code.all (by omega)
      have c25 := hcs e el
      rw [e25] at c25
      rw [ecv, ← hn] at c12
      have Mr := M.frame Fw fun h => h
      rw [← hn] at Mr
      have q := landsK Mr e (by omega) ech
      have yz : (((e : Nat) : Int) == 0) = decide (e = 0) := by
        by_cases h : e = 0
        · subst h; rfl
        · rw [decide_eq_false h]; simp; exact h
      have HQ : Hid (True ∧ _) := ⟨trivial, And.intro hβ (And.intro Fw ee)⟩
      have hen : e < n := by omega
      clear H K T hee M hn hm Hr ecv hcs eev hβ Fw ee hi' Mr ech el e25
      cases β with
      | true =>
        go_wp2_with fail
        refine q.mono ?_
        rintro v w5 ⟨rfl, hw5⟩
        subst w5
        clear q
        go_wp2_with fail
        go_roundg (gk - 1)
        case measure => omega
        case rel =>
          obtain ⟨_, hβ, Fw, ee⟩ := HQ.out
          refine ⟨i + 1, true, by simp, rfl, by omega, ⟨fun _ => ?_, fun _ => rfl⟩, Fw⟩
          rcases hβ.1 (by simp) with h | ⟨j, h1, h2⟩
          · exact .inl h
          · exact .inr ⟨j, by omega, h2⟩
      | false =>
        go_wp2_with fail
        refine q.mono ?_
        rintro v w5 ⟨rfl, hw5⟩
        subst w5
        clear q
        go_wp2_with fail
        go_roundg (gk - 1)
        case measure => omega
        case rel =>
          obtain ⟨_, hβ, Fw, ee⟩ := HQ.out
          refine ⟨i + 1, decide (e = 0), by simp, by first | rfl | (rw [← yz]), by omega, ?_, Fw⟩
          constructor
          · intro h
            have h0 : e = 0 := by simpa using h
            exact .inr ⟨i, by omega, by rw [ee, h0]; rfl⟩
          · intro h
            rcases h with h | ⟨j, h1, h3⟩
            · exact absurd (hβ.2 (.inl h)) (by simp)
            · by_cases hj : j = i
              · subst hj
                rw [ee] at h3
                injection h3 with h3
                exact decide_eq_true (by omega)
              · exact absurd (hβ.2 (.inr ⟨j, by omega, h3⟩)) (by simp)
    · have z0 : decide ((i : Int) < (m : Nat)) = false := decide_eq_false (by omega)
      have hβt : β = true := by
        refine hβ.2 ?_
        rcases T.zz with h | ⟨j, h1, h2⟩
        · exact .inl (by omega)
        · exact .inr ⟨j, by omega, h2⟩
      subst hβt
      rw [hee, ← hm] at c15
      obtain ⟨xa, xc, hxe⟩ : ∃ a c, xv = .slice a B.calls.length c := by
        rcases H.cal with ⟨e1, e2⟩ | ⟨b, cap, f, e1, _⟩
        · exact ⟨none, 0, by rw [e1, e2]; rfl⟩
        · exact ⟨_, _, e1⟩
      have HFw : Hid (True ∧ _) := ⟨trivial, Fw⟩
      obtain ⟨l, hl⟩ : ∃ l, l = B.calls.length := ⟨_, rfl⟩
      have Hl : Hid (True ∧ _) := ⟨trivial, And.intro hl hxe⟩
      rw [← hl] at hxl
      clear H K T hee M hn hm Hr hβ hxe hl Fw
      go_wp2_with fail
      go_loopg [8] l (fun gm kv wr => ∃ k : Nat, kv = .int .i64 (k : Nat) ∧ k + gm = l ∧ Fr (fun _ => False) w wr)
      case atStart => exact ⟨0, rfl, by omega, HFw.out.2⟩
      case round =>
        obtain ⟨k, rfl, hg2, Fk⟩ := hrel
        have hg3 : k + gk = l := hg2
        clear hg2 c15 glt
        obtain ⟨_, H, K, T, hee, M⟩ := HH.out
        obtain ⟨_, hn, hm⟩ := Hn.out
        obtain ⟨_, hl, hxe⟩ := Hl.out
        have Hk := H.same Fk
        have c14 : wr.cell? ⟨g, 14, none⟩ = some xv := Hk.cl (o := 14) (by omega)
        have glt := Hk.glt
        by_cases hk : k < l
        · have z1 : decide ((k : Int) < (l : Nat)) = true := decide_eq_true (by omega)
          have hk' : k < B.calls.length := by omega
          obtain ⟨x, ex, x1, xch, xl, x24, x2, xen⟩ := T.rw' k hk'
          obtain ⟨xb, xc', exv, xblt, xd0, xd1⟩ := Hk.cal.get hk'
          have ex' : B.calls[k] = x := by rw [List.getElem?_eq_getElem hk'] at ex; injection ex
          rw [ex'] at xd0 xd1
          rw [exv, ← hl] at c14
          have k5 : Fr (fun _ => False) wr ((wr.alloc (.cells #[.int .i64 (x.1 : Nat), .int .i64 (x.2 : Nat)] 132)).drew) := ((Fr.refl (fun _ => False) wr).alloc _).drew
          have b5 : Blk ((wr.alloc (.cells #[.int .i64 (x.1 : Nat), .int .i64 (x.2 : Nat)] 132)).drew) wr.heap.size 2 (fun o => if o = 0 then .int .i64 (x.1 : Nat) else .int .i64 (x.2 : Nat)) := (Blk.new wr #[.int .i64 (x.1 : Nat), .int .i64 (x.2 : Nat)] 132 _ (fun o ho => by
            have ho : o < 2 := ho
            obtain rfl | rfl : o = 0 ∨ o = 1 := by omega
            all_goals rfl)).drew
          have HQ : Hid (True ∧ _) := ⟨trivial, And.intro Fk (And.intro H (And.intro K (And.intro T (And.intro M (And.intro xch (And.intro x24 (And.intro xen (And.intro k5 (And.intro b5 (And.intro hn hm))))))))))⟩
          clear H K T hee M hn hm hl hxe Hk Fk xch x24 xen ex exv ex' k5 b5 hk'
          go_upto_region 13 with fail
          refine wp_region_text (by kernel_rfl) (by kernel_rfl) ?_
          obtain ⟨_, Fk, H, K, T, M, xch, x24, xen, k5, b5, hn, hm⟩ := HQ.out
          obtain ⟨w5, hw5⟩ : ∃ w5, w5 = (wr.alloc (.cells #[.int .i64 (x.1 : Nat), .int .i64 (x.2 : Nat)] 132)).drew := ⟨_, rfl⟩
          rw [← hw5] at k5 b5
          rw [← hw5]
          obtain ⟨nb, hnb⟩ : ∃ nb, nb = wr.heap.size := ⟨_, rfl⟩
          rw [← hnb] at b5
          rw [← hnb]
          have F5 := Fk.trans k5 fun _ _ h => h
          have H5 := H.same F5
          have M5 := M.frame F5 fun h => h
          rw [← hn] at M5 xl
          have r0 : w5.cell? ⟨nb, 0, none⟩ = some (.int .i64 (x.1 : Nat)) := b5.cell (o := 0) (by omega)
          have r1 : w5.cell? ⟨nb, 1, none⟩ = some (.int .i64 (x.2 : Nat)) := b5.cell (o := 1) (by omega)
          have nbl := b5.lt
          have c15 : w5.cell? ⟨g, 15, none⟩ = some ev := H5.cl (o := 15) (by omega)
          have glt := H5.glt
          obtain ⟨eb, ec', eev, _, eblt, ecell, _⟩ := H5.ent.set x2
          rw [get_some x2 xen] at ecell
          rw [eev, ← hm] at c15
          have q := landsK M5 (x.1 - 1) (by omega) xch
          have e1 : ((x.1 - 1 : Nat) : Int) = (x.1 : Int) - 1 := by omega
          rw [e1] at q
          have y1 : decide (((x.2 : Nat) : Int) < 0) = false := decide_eq_false (by omega)
          have y2 : decide (((x.2 : Nat) : Int) ≥ (m : Nat)) = false := decide_eq_false (by omega)
          have y3 : decide (((m : Nat) : Int) ≤ (x.2 : Nat)) = false := decide_eq_false (by omega)
          have e2 : wrap64 (((x.1 : Nat) : Int) - 1) = ((x.1 : Nat) : Int) - 1 := by simp only [wrap64]; omega
          have HQ2 : Hid (True ∧ _) := ⟨trivial, And.intro F5 (And.intro H (And.intro K (And.intro b5 (And.intro x24 (And.intro xen (And.intro hn hm))))))⟩
          rw [← hm] at x2
          clear Fk H K T M xch x24 xen k5 b5 hn hm hw5 hnb F5 H5 M5 eev e1 c14 xd0 xd1 HQ
          go_wp2_with fail
          refine q.mono ?_
          rintro v w6 ⟨rfl, hw6⟩
          subst w6
          clear q
          go_wp2_with fail
          refine ⟨by kernel_rfl, ?_⟩
          go_upto_region 15 with fail
          obtain ⟨_, F5, H, K, b5, x24, xen, hn, hm⟩ := HQ2.out
          have H5 := H.same F5
          have c12 : w5.cell? ⟨g, 12, none⟩ = some cv := H5.cl (o := 12) (by omega)
          obtain ⟨cb, cc', ecv, hcl, hcs⟩ := H5.code.all (by omega)
          have c24 := hcs (x.1 - 1) (by omega)
          rw [x24] at c24
          rw [ecv, ← hn] at c12
          have hq : ∀ j, Calls Tryz.prog 43 #[.slice (some ⟨cb, 0, none⟩) n cc', .int .i64 (x.1 : Nat)] (w5.drewN j) fun e w' => e = .returned (.int .i64 (u16V B.code x.1 : Nat)) ∧ ∃ m, w' = (w5.drewN j).drewN m := fun j => by
            have q := u16F (H5.same ((Fr.refl _ w5).drewN j)).code K.by' (by have := K.le; omega) x.1 (by omega)
            rw [ecv, ← hn] at q
            exact q
          have e3 : (((x.1 : Nat) : Int) - 1).toNat = x.1 - 1 := by omega
          have h3 : (0 : Int) ≤ ((x.1 : Nat) : Int) - 1 := by omega
          have h4 : ((x.1 : Nat) : Int) - 1 < (n : Nat) := by omega
          have h5 : ((x.2 : Nat) : Int) < (m : Nat) := by omega
          have HQ3 : Hid (True ∧ _) := ⟨trivial, F5⟩
          clear F5 H K b5 x24 xen hn hm H5 hcs ecv
          generalize u16V B.code x.1 = u at *
          go_quiet (first | (go_at_call 43; refine Calls.quiet_of (hq _)))
          generalize hw7 : World.drewN _ _ = w7
          have k7 : Fr (fun _ => False) w5 w7 := by rw [← hw7]; exact (Fr.refl _ w5).drewN _
          have HQ4 : Hid (True ∧ _) := ⟨trivial, HQ3.out.2.trans k7 fun _ _ h => h⟩
          clear hw7 k7 hq r0 r1 nbl c15 glt ecell eblt c12 hcl c24
          go_wp2_with fail
          go_roundg (gk - 1)
          case measure => omega
          case rel => exact ⟨k + 1, by simp, by omega, HQ4.out.2⟩
        · have z1 : decide ((k : Int) < (l : Nat)) = false := decide_eq_false (by omega)
          rw [hxe, ← hl] at c14
          have HQ : Hid (True ∧ _) := ⟨trivial, Fk⟩
          clear H K T hee M hn hm hl hxe Hk Fk
          go_wp2_with fail
          go_ret
          exact ⟨rfl, HQ.out.2⟩
end Go.Proofs.Qxb6500277aGreat
