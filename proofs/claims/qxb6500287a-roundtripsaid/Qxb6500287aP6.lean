/- Print, Back. -/
import Derived.Test.Qxb6500287aP5
import Derived.Laws.IdiomStrings
namespace Go.Proofs.Qxb6500287a
open Go Go.RowKit

theorem at_intro {q : ByteArray} : ∀ (l : List Nat) (i : Nat), (∀ j (h : j < l.length), i + j < q.size ∧ bt q (i + j) = l[j]) → At q i l
  | [], _, _ => trivial
  | c :: l, i, h => by
    refine ⟨h 0 (by simp), at_intro l (i + 1) fun j hj => ?_⟩
    have := h (j + 1) (by simp; omega)
    rw [show i + 1 + j = i + (j + 1) by omega]
    simpa using this
def textOf (l : List Nat) : ByteArray := ⟨(l.map UInt8.ofNat).toArray⟩
theorem textOf_size (l : List Nat) : (textOf l).size = l.length := by simp [textOf, ByteArray.size]
theorem textOf_at (l : List Nat) (h : ∀ b ∈ l, b < 256) : At (textOf l) 0 l := by
  refine at_intro l 0 fun j hj => ?_
  rw [Nat.zero_add, textOf_size]
  refine ⟨hj, ?_⟩
  have hs : j < (textOf l).size := by rw [textOf_size]; exact hj
  unfold bt
  rw [dif_pos hs]
  have h1 : (textOf l)[j] = UInt8.ofNat l[j] := by
    show (textOf l).data[j] = _
    simp [textOf]
  rw [h1, UInt8.toNat_ofNat_of_lt']
  exact h _ (List.getElem_mem hj)
set_option maxRecDepth 100000 in
set_option maxHeartbeats 4000000 in
theorem print_any {ns : List Nd} (hwf : WF ns) (hrb : ∀ k (h : k < ns.length), RB ns[k]) (h24 : ns.length ≤ 24) {x : Nat} (hx : x < ns.length) {w : World} {tb : Nat} (htb : ∃ f, Blk w tb (ns.length * 11) f ∧ Holds11 f ns) (g e q : Int) :
    Calls Try.prog 19 #[.agg #[.slice (some ⟨tb, 0, none⟩) ns.length ns.length, .int .i64 (x : Nat), .int .i64 g, .int .i64 e, .int .i64 q]] w fun v w' => v = .returned (.string (textOf (pr ns x 0))) ∧ Fr (fun _ => False) w w' := by
  have F1 := (Fr.refl (fun _ => False) w).alloc (.cells #[.slice (some ⟨tb, 0, none⟩) ns.length ns.length, .int .i64 (x : Nat), .int .i64 g, .int .i64 e, .int .i64 q] 63)
  have htb1 : ∃ f, Blk (w.alloc (.cells #[.slice (some ⟨tb, 0, none⟩) ns.length ns.length, .int .i64 (x : Nat), .int .i64 g, .int .i64 e, .int .i64 q] 63)) tb (ns.length * 11) f ∧ Holds11 f ns := by
    obtain ⟨f, hb, hf⟩ := htb
    exact ⟨f, hb.frame F1 (fun h => h), hf⟩
  go_enter Try.func19, Try.ntmps19
  go_wp2_with fail
  refine (put_any hwf hrb h24 x hx _ (.slice none 0 0) [] tb 0 (x : Nat) g e q (by omega) htb1 (fun b hb => absurd hb (noBlk b)) (.inl ⟨rfl, rfl⟩) (by simpa using pr_bound hwf h24 hx 0)).mono ?_
  rintro ee w2 ⟨v2, rfl, hP⟩
  have F2 : Fr (fun _ => False) w w2 := F1.trans (hP.fr.mono (fun b _ e => absurd e (noBlk b))) (fun _ _ h => h)
  have hbt := hP.bt
  rw [List.nil_append] at hbt
  have hlt := pr_lt hwf hrb x hx 0
  obtain ⟨l, hl⟩ : ∃ l, pr ns x 0 = l := ⟨_, rfl⟩
  rw [hl] at hbt hlt
  have Hl : Hid _ := hl
  clear hl hP
  rcases hbt with ⟨rfl, rfl⟩ | ⟨b, cap, f, rfl, hc, hb, hf⟩
  · have hcv : (convert 74 9 (.slice none 0 0)).run Try.prog w2 = .ok (.string (textOf [])) w2 := by
      rw [run_convert_bytes_string w2 74 9 5 none 0 0 Try.underlying74 Try.underlying5 Try.underlying9]
      rfl
    go_wp2_with fail
    go_ret
    exact ⟨by rw [Hl.out]; rfl, F2⟩
  · have hcv := run_convert_bytes_back (P := Try.prog) w2 74 9 5 ⟨b, 0, none⟩ cap (l.map UInt8.ofNat) Try.underlying74 Try.underlying5 Try.underlying9 (fun j hj => by
      have hj' : j < l.length := by simpa using hj
      rw [Addr.add_lit, Nat.zero_add, hb.cell (by omega), hf j hj']
      simp only [List.getElem_map]
      rw [UInt8.toNat_ofNat_of_lt' (hlt _ (List.getElem_mem hj'))])
    rw [List.length_map] at hcv
    have hcv2 : (convert 74 9 (.slice (some ⟨b, 0, none⟩) l.length cap)).run Try.prog w2 = .ok (.string (textOf l)) w2 := hcv
    clear hcv
    generalize l.length = n at *
    go_wp2_with fail
    go_ret
    exact ⟨by rw [Hl.out]; rfl, F2⟩
theorem wd_nm (P : BSet) (k : Nat) (h : k < 4) : wd (nmS P) k = wd P k := wd_same _ _ _ fun i hi => by
  have : 64 * k + i < 256 := by omega
  simp [nmS, this]
theorem ndCell_nm (n : Nd) {j : Nat} (h : j < 11) : ndCell (nm n) j = ndCell n j := by
  rcases lt11 h with rfl | rfl | rfl | rfl | rfl | rfl | rfl | rfl | rfl | rfl | rfl <;> simp [ndCell, nm, wd_nm]
theorem Holds11.nm {f : Nat → Value} {ns : List Nd} (h : Holds11 f (ns.map nm)) : Holds11 f ns := fun i hi j hj => by
  have := h i (by simpa using hi) j hj
  rw [this, List.getElem_map, ndCell_nm _ hj]
def BkPost (w : World) (x m c : Nat) (e : Ending) (w' : World) : Prop := e = .returned (.bool true) ∧ RAny w' x ⟨#[]⟩ ∧ Blk w' m 1 (fun _ => .int .i64 ((c + 1 : Nat) : Int)) ∧ Fr (fun b => b = x ∨ b = m) w w'
set_option maxRecDepth 100000 in
set_option maxHeartbeats 8000000 in
theorem back_any {w : World} {x m c : Nat} (hR : RAny w x ⟨#[]⟩) (hm : Blk w m 1 (fun _ => .int .i64 (c : Nat))) (hxm : x ≠ m) (hc : c ≤ 9999999999999) (p : ByteArray) :
    Calls Try.prog 15 #[.pointer (some ⟨x, 0, none⟩), .pointer (some ⟨m, 0, none⟩), .string p] w (BkPost w x m c) := by
  have hxl := hR.lt
  have hml := hm.lt
  go_enter Try.func15, Try.ntmps15
  go_wp2_with fail
  refine (parseM_any hm (by omega) p).mono ?_
  rintro v1 w1 ⟨o, hM, hP1, hm1, f1⟩
  have hok := hM.ok
  have hR1 := hR.frame f1 hxm
  have hw1 := f1.size
  have F1 := f1.mono (S' := fun b => b = x ∨ b = m) (fun _ _ h => .inr h)
  cases o with
  | error er =>
    have hP1 : v1 = .returned (trErr er) := hP1
    subst hP1
    have te : (er.1 == 0) = false := by simpa using hok.1
    have te' : (er.1 != 0) = true := by simpa using hok.1
    unfold trErr
    go_wp2_with fail
    go_ret
    exact ⟨rfl, hR1.frame ((Fr.refl (fun _ => False) w1).alloc _) (fun h => h), hm1.alloc _, F1.alloc _⟩
  | ok v =>
    obtain ⟨ns, y, g⟩ := v
    obtain ⟨b, hb0, rfl, f, hbk, hf⟩ := hP1
    obtain ⟨hwf, h1, h24, hy, hg⟩ := hok
    have hML : ModelR p (.ok (ns, y, g)) := by
      rcases hM with ⟨_, h⟩ | ⟨_, h⟩
      · cases h
      · exact h
    have hrb := hML.rb
    have HRT : Hid _ := (fun (s : ByteArray) (h1 : At s 0 (pr ns y 0)) (h2 : s.size = (pr ns y 0).length) => round_trip hML h1 h2)
    have hplt := pr_lt hwf hrb y (by omega) 0
    clear hM hML
    have hTA := Blk.tree w1 (.slice (some ⟨b, 0, none⟩) ns.length ns.length) (y : Nat) (g : Nat) 0 0
    have FA := (Fr.refl (fun _ => False) w1).alloc (.cells #[.slice (some ⟨b, 0, none⟩) ns.length ns.length, .int .i64 (y : Nat), .int .i64 (g : Nat), .int .i64 0, .int .i64 0] 63)
    have hbkA := hbk.frame FA (fun h => h)
    have hRA := hR1.frame FA (fun h => h)
    have hmA := hm1.frame FA (fun h => h)
    go_wp2_with fail
    refine (print_any hwf hrb h24 (x := y) (by omega) ⟨f, hbkA, hf⟩ (g : Nat) 0 0).mono ?_
    rintro ee w2 ⟨rfl, f2⟩
    have hTA2 := hTA.frame f2 (fun h => h)
    have hbk2 := hbkA.frame f2 (fun h => h)
    have hR2 := hRA.frame f2 (fun h => h)
    have hm2 := hmA.frame f2 (fun h => h)
    have F2 := (F1.trans FA (fun _ _ h => h.elim)).trans f2 (fun _ _ h => h.elim)
    have hts := textOf_size (pr ns y 0)
    have htat := textOf_at (pr ns y 0) hplt
    have HRT2 : Hid _ := HRT.out _ htat hts
    clear HRT htat hplt hrb
    generalize textOf (pr ns y 0) = s at *
    clear hts
    have hA2s := hTA2.lt
    have hbs := hbk2.lt
    go_wp2_with fail
    refine (parseR_any (p := s) hR2).mono ?_
    rintro v3 w3 ⟨o3, hE3, hP3, hR3, f3⟩
    have hm3 := hm2.frame f3 (fun e => hxm e.symm)
    have hTA3 := hTA2.frame f3 (fun e => by omega)
    have hbk3 := hbk2.frame f3 (fun e => by omega)
    have F3 := F2.trans f3 (fun b _ e => .inl e)
    have hw3 := f3.size
    by_cases hbig : 128 < s.size
    · have ho3 : o3 = .error (12, 0) := by
        rcases hE3 with ⟨_, h⟩ | ⟨h, _⟩
        · exact h
        · omega
      subst ho3
      have hP3 : v3 = .returned (trErr (12, 0)) := hP3
      subst hP3
      have hbd : decide ((128 : Int) < s.size) = true := decide_eq_true (by omega)
      have e0 : ∀ w, (binOp .eql 35 (.slice none 0 0) (.slice none 0 0)).run Try.prog w = .ok (.bool true) w := fun w => run_eql_nil_slice w 35 49 none 0 0 0 0 Try.underlying35
      unfold trErr
      go_wp2_with fail
      go_ret
      exact ⟨rfl, hR3.frame ((Fr.refl (fun _ => False) w3).alloc _) (fun h => h), hm3.alloc _, F3.alloc _⟩
    · have ho3 : o3 = .ok (ns.map nm, y, g) := by
        rcases hE3 with ⟨h, _⟩ | ⟨_, h⟩
        · omega
        · exact (model_real HRT2.out h).symm
      subst ho3
      have hbd : decide ((128 : Int) < s.size) = false := decide_eq_false (by omega)
      obtain ⟨b3, hb3, rfl, f3', hbk3', hf3'⟩ := hP3
      rw [List.length_map] at hbk3'
      simp only [List.length_map]
      have hLa : LVn w3 (.slice (some ⟨b3, 0, none⟩) ns.length ns.length) ns := .inr ⟨b3, f3', rfl, hbk3', hf3'.nm, by omega⟩
      have hLt : LVn w3 (.slice (some ⟨b, 0, none⟩) ns.length ns.length) ns := .inr ⟨b, f, rfl, hbk3, hf, by omega⟩
      have FB := (Fr.refl (fun _ => False) w3).alloc (.cells #[.slice (some ⟨b3, 0, none⟩) ns.length ns.length, .int .i64 (y : Nat), .int .i64 (g : Nat), .int .i64 0, .int .i64 0] 63)
      have hst := sameTree_any (hLa.frame FB (fun _ _ h => h)) (hLt.frame FB (fun _ _ h => h)) h24 (y : Nat) (g : Nat) 0 0
      unfold treeV at hst
      have Hst : Hid _ := hst
      clear hst hLa hLt
      have a0 := hTA3.cell (o := 0) (by omega)
      have a1 := hTA3.cell (o := 1) (by omega)
      have a2 := hTA3.cell (o := 2) (by omega)
      have a3 := hTA3.cell (o := 3) (by omega)
      have a4 := hTA3.cell (o := 4) (by omega)
      simp only [getD5] at a0 a1 a2 a3 a4
      have hA3l := hTA3.lt
      go_wp2_with fail
      refine Calls.mono Hst.out ?_
      rintro ee w4 ⟨rfl, f4⟩
      have FF := FB.trans f4 (fun _ _ h => h)
      go_wp2_with fail
      go_ret
      exact ⟨rfl, hR3.frame FF (fun h => h), hm3.frame FF (fun h => h), F3.trans FF (fun _ _ h => h.elim)⟩
end Go.Proofs.Qxb6500287a
