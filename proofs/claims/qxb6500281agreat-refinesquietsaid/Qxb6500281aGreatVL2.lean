/- The law: observers of both machines (written by genVL2.py). -/
import Derived.Test.Qxb6500281aGreatVL1
import Derived.Test.Qxb6500281aGreatKW10
import Derived.Test.Qxb6500281aGreatKW11
import Derived.Test.Qxb6500281aGreatKM6
import Derived.Test.Qxb6500281aGreatKM10
namespace Go.Proofs.Qxb6500281aGreat
open Go Go.RowKit

theorem LVi.ki {w : World} {v : Value} {p : List Int} (h : LVi w v p) : KiAt w v p := by
  obtain ⟨b, f, rfl, hb, hf⟩ := h
  exact .inr ⟨b, _, f, rfl, Nat.le_refl _, hb, hf⟩
theorem LVi.frame {S : Nat → Prop} {w w' : World} {v : Value} {p : List Int} (h : LVi w v p) (k : Fr S w w') (hb : ∀ b, isB v b → ¬ S b) : LVi w' v p := by
  obtain ⟨b, f, rfl, hbk, hf⟩ := h
  exact ⟨b, f, rfl, hbk.frame k (hb b ⟨_, _, rfl⟩), hf⟩
theorem flat_le (S : HS) (L : List Int) : ∀ l : List Int, (l.flatMap (objD S L)).length ≤ 2 * wdL S.mem l
  | [] => by simp [wdL]
  | x :: l => by
    have ih := flat_le S L l
    have e : wdL S.mem (x :: l) = wdO S.mem x.toNat + wdL S.mem l := by simp [wdL]
    have e2 : (objD S L x).length = 2 + nrO S.mem x.toNat + niO S.mem x.toNat := by simp [objD, rfO_len, itO_len]; omega
    simp only [List.flatMap_cons, List.length_append]
    rw [e, e2]
    unfold wdO
    omega
theorem HInv.dlen {S : HS} {os : List Int} (hI : HInv S os) : 0 < S.gh.dump.length ∧ S.gh.dump.length ≤ 2000 := by
  have h1 := hI.live
  have h2 := hI.le
  have h3 := hI.top
  have h4 := gh_live S
  have h5 := flat_le S S.gh.ord S.gh.ord
  have h6 : (Go.Proofs.Qxb6500281aGreat.rts S S.top).length = S.top := by simp [Go.Proofs.Qxb6500281aGreat.rts]
  rw [dump_eq]
  simp only [List.length_append, List.length_map, List.length_singleton]
  omega
theorem Rel.dumps {S : HS} {M : MS} (h : Rel S M) : S.gh.dump = M.gh.dump := by
  obtain ⟨P, os, hI, hs, _⟩ := h.all
  exact hs.dump
theorem new_rel : Rel hsNew ⟨[], []⟩ := by
  refine ⟨⟨fun _ _ => False, [], hsNew_inv, ⟨⟨fun _ _ h => h.elim, fun _ _ _ _ h => h.elim⟩, ?_, fun _ _ h => h.elim⟩, fun _ _ h => h.elim⟩, ⟨by simp, by simp, by simp, by simp⟩⟩
  simp only [HS.gh, MS.gh, hsNew, hs0, List.range_zero, List.map_nil]
  exact .nil
section
variable {w w' : World} {mv : Value} {n : Nat} {f : Nat → Value}
theorem MnA.frame {F : Nat → Prop} (H : MnA w mv n f) (k : Fr F w w') (h1 : ∀ c, isB mv c ∨ (∃ j, j < n ∧ isB (f j) c) → ¬ F c) : MnA w' mv n f :=
  ⟨H.le, H.os.frame k (fun c hc => h1 c (.inl hc)), fun j hj => (H.st j hj).frame k (fun c hc => h1 c (.inr ⟨j, hj, hc⟩))⟩
theorem MnA.lt (H : MnA w mv n f) {c : Nat} (hc : isB mv c ∨ ∃ j, j < n ∧ isB (f j) c) : c < w.heap.size := by
  rcases hc with hc | ⟨j, hj, hc⟩
  · exact H.os.bk hc
  · exact (H.st j hj).bk hc
end
def mC3 (hm : Nat) (s t : Int) (o : Nat) : Value := match o with | 0 => .pointer (some ⟨hm, 0, none⟩) | 1 => .int .i64 s | _ => .int .i64 t
/-- The model machine between two runs. -/
structure MX (w : World) (m hm : Nat) (M : MS) (s t : Int) (O : Nat → Prop) : Prop where
  blk : Blk w m 3 (mC3 hm s t)
  mm : MM w hm M O
  nm : ¬ O m
section
variable {w w' : World} {m hm h : Nat} {M : MS} {s t : Int} {O F : Nat → Prop} {S : HS}
theorem MX.frame (H : MX w m hm M s t O) (k : Fr F w w') (h1 : ¬ F m) (h2 : ∀ c, O c → ¬ F c) : MX w' m hm M s t O := ⟨H.blk.frame k h1, H.mm.frame k h2, H.nm⟩
theorem MX.same (H : MX w m hm M s t O) (k : Fr (fun _ => False) w w') : MX w' m hm M s t O := H.frame k (fun h => h) (fun _ _ h => h)
theorem MX.lt (H : MX w m hm M s t O) : m < w.heap.size ∧ ∀ c, O c → c < w.heap.size := by
  obtain ⟨ov, rv, f, V⟩ := H.mm
  exact ⟨H.blk.lt, V.lt⟩
theorem MX.oh (H : MX w m hm M s t O) : O hm := by
  obtain ⟨ov, rv, f, V⟩ := H.mm
  exact V.om
theorem stepsMF (H : MX w m hm M s t O) : Calls Tryz.prog 37 #[.pointer (some ⟨m, 0, none⟩)] w fun e w' => e = .returned (.int .i64 s) ∧ w' = w := by
  have c1 := H.blk.cell (o := 1) (by omega)
  simp only [mC3] at c1
  have hlt := H.blk.lt
  clear H
  go_enter Tryz.func37, Tryz.ntmps37
  go_wp2_with fail
  go_ret
  exact ⟨rfl, rfl⟩
theorem maxSpMF (H : MX w m hm M s t O) : Calls Tryz.prog 38 #[.pointer (some ⟨m, 0, none⟩)] w fun e w' => e = .returned (.int .i64 t) ∧ w' = w := by
  have c1 := H.blk.cell (o := 2) (by omega)
  simp only [mC3] at c1
  have hlt := H.blk.lt
  clear H
  go_enter Tryz.func38, Tryz.ntmps38
  go_wp2_with fail
  go_ret
  exact ⟨rfl, rfl⟩
theorem dumpXF (H : MX w m hm M s t O) (mi : MInv M) (h24 : M.rt.length ≤ 24) : Calls Tryz.prog 23 #[.pointer (some ⟨m, 0, none⟩)] w fun e w' => ∃ v, e = .returned v ∧ LVi w' v M.gh.dump ∧ Fr (fun _ => False) w w' := by
  have c1 := H.blk.cell (o := 0) (by omega)
  simp only [mC3] at c1
  have hlt := H.blk.lt
  obtain ⟨ov, rv, f, V⟩ := H.mm
  have hD := dumpMF V mi h24
  clear H V
  go_enter Tryz.func23, Tryz.ntmps23
  go_wp2_with fail
  refine hD.mono ?_
  rintro v w1 ⟨v1, rfl, D1, _, _, f1⟩
  obtain ⟨b, g, rfl, hb, hg⟩ := D1
  have HD : Hid (LVi w1 (.slice (some ⟨b, 0, none⟩) M.gh.dump.length M.gh.dump.length) M.gh.dump) := ⟨b, g, rfl, hb, hg⟩
  clear hb hg
  go_wp2_with fail
  go_ret
  exact ⟨_, rfl, HD.out, f1⟩
theorem newXF (w : World) : Calls Tryz.prog 9 #[] w fun e w' => ∃ m hm, e = .returned (.pointer (some ⟨m, 0, none⟩)) ∧ MX w' m hm ⟨[], []⟩ 0 0 (fun c => c = hm) ∧ w.heap.size ≤ m ∧ w.heap.size ≤ hm ∧ Fr (fun _ => False) w w' := by
  have hN := newMF w
  go_enter Tryz.func9, Tryz.ntmps9
  go_wp2_with fail
  refine hN.mono ?_
  rintro v w1 ⟨rfl, M1, f1⟩
  have hs := f1.size
  have hl : w.heap.size < w1.heap.size := by
    obtain ⟨ov, rv, f, V⟩ := M1
    exact V.lt _ V.om
  have HM1 : Hid _ := And.intro M1 f1
  clear M1 f1 hN
  go_wp2_with fail
  go_ret
  have k := (Fr.refl (fun _ => False) w1).alloc (.cells #[.pointer (some ⟨w.heap.size, 0, none⟩), .int .i64 0, .int .i64 0] 59)
  refine ⟨w1.heap.size, w.heap.size, rfl, ⟨Blk.new w1 _ _ _ (fun o ho => ?_), HM1.out.1.frame k (fun _ _ h => h), fun e => by omega⟩, by omega, Nat.le_refl _, HM1.out.2.trans k (fun _ _ h => h)⟩
  have ho : o < 3 := ho
  have : o = 0 ∨ o = 1 ∨ o = 2 := by omega
  rcases this with rfl | rfl | rfl <;> rfl
theorem groundF (w : World) : Calls Tryz.prog 7 #[] w fun e w' => ∃ h, e = .returned (.agg #[.pointer (some ⟨h, 0, none⟩)]) ∧ HM w' h hsNew ∧ w.heap.size ≤ h ∧ Fr (fun _ => False) w w' := by
  have k0 := (Fr.refl (fun _ => False) w).alloc (.cells #[.pointer none] 29)
  have B0 := Blk.new w #[.pointer none] 29 (fun _ => .pointer none) (fun o ho => by
    have ho : o < 1 := by simpa using ho
    obtain rfl : o = 0 := by omega
    rfl)
  have hN := newHF (w.alloc (.cells #[.pointer none] 29))
  have hs0 : (w.alloc (.cells #[.pointer none] 29)).heap.size = w.heap.size + 1 := by simp [World.size_alloc]
  rw [hs0] at hN
  have HK : Hid _ := And.intro k0 (And.intro B0 hs0)
  clear k0 B0 hs0
  go_enter Tryz.func7, Tryz.ntmps7
  go_wp2_with fail
  refine hN.mono ?_
  rintro v w1 ⟨rfl, M1, f1⟩
  obtain ⟨k0, B0, hs0⟩ := HK.out
  have B1 := B0.frame f1 (fun h => h)
  have c0 := B1.cell (o := 0) (by simp)
  have hbl := B1.lt
  have hbz := B1.frozen
  have HM1 : Hid _ := And.intro M1 (And.intro f1 B1)
  clear M1 f1 B0 B1 k0 hN
  go_wp2_with fail
  have hB := (HM1.out.2.2.set 0 (.pointer (some ⟨w.heap.size + 1, 0, none⟩))).cell (o := 0) (by simp)
  simp only [upd, if_true] at hB
  refine bodyPost_ret (v := .agg #[.pointer (some ⟨w.heap.size + 1, 0, none⟩)]) (by simp [results, Tryz.results7, go_sem, hB]) rfl ?_
  have k2 := (Fr.refl (fun c => c = w.heap.size) w1).setC w.heap.size 0 (.pointer (some ⟨w.heap.size + 1, 0, none⟩)) (fun _ => rfl)
  refine ⟨_, rfl, HM1.out.1.frame k2 (fun e => by omega), by omega, (HK.out.1.trans HM1.out.2.1 (fun _ _ h => h)).trans k2 (fun c hc h => by omega)⟩
theorem pastF (H : HM w h S) (ht : S.top ≤ 24) : Calls Tryz.prog 17 #[.agg #[.pointer (some ⟨h, 0, none⟩)]] w fun e w' => e = .returned (.tuple #[]) ∧ HM w' h (pushN S).2 ∧ Fr (OnlyH h) w w' := by
  have k0 := (Fr.refl (fun _ => False) w).alloc (.cells #[.pointer (some ⟨h, 0, none⟩)] 29)
  have B0 := Blk.new w #[.pointer (some ⟨h, 0, none⟩)] 29 (fun _ => .pointer (some ⟨h, 0, none⟩)) (fun o ho => by
    have ho : o < 1 := by simpa using ho
    obtain rfl : o = 0 := by omega
    rfl)
  have c0 := B0.cell (o := 0) (by simp)
  have hbl := B0.lt
  have hP := pushF (H.frame k0 (fun h => h)) ht
  have HK : Hid _ := k0
  clear k0 B0 H
  go_enter Tryz.func17, Tryz.ntmps17
  go_wp2_with fail
  refine hP.mono ?_
  rintro v w1 ⟨rfl, M1, f1⟩
  have HM1 : Hid _ := And.intro M1 f1
  clear M1 f1 hP c0 hbl
  go_wp2_with fail
  go_end0
  exact ⟨rfl, HM1.out.1, (HK.out.mono (fun _ _ h => h.elim)).trans HM1.out.2 (fun _ _ h => h)⟩
theorem dumpBF {os : List Int} (H : HM w h S) (hI : HInv S os) : Calls Tryz.prog 22 #[.agg #[.pointer (some ⟨h, 0, none⟩)]] w fun e w' => ∃ v, e = .returned v ∧ LVi w' v S.gh.dump ∧ Fr (fun _ => False) w w' := by
  have k0 := (Fr.refl (fun _ => False) w).alloc (.cells #[.pointer (some ⟨h, 0, none⟩)] 29)
  have B0 := Blk.new w #[.pointer (some ⟨h, 0, none⟩)] 29 (fun _ => .pointer (some ⟨h, 0, none⟩)) (fun o ho => by
    have ho : o < 1 := by simpa using ho
    obtain rfl : o = 0 := by omega
    rfl)
  have c0 := B0.cell (o := 0) (by simp)
  have hbl := B0.lt
  have hP := dumpF (H.frame k0 (fun h => h)) hI
  have HK : Hid _ := k0
  clear k0 B0 H
  go_enter Tryz.func22, Tryz.ntmps22
  go_wp2_with fail
  refine hP.mono ?_
  rintro v w1 ⟨v1, rfl, D1, _, _, f1⟩
  obtain ⟨b, g, rfl, hb, hg⟩ := D1
  have HD : Hid (LVi w1 (.slice (some ⟨b, 0, none⟩) S.gh.dump.length S.gh.dump.length) S.gh.dump) := ⟨b, g, rfl, hb, hg⟩
  clear hb hg c0 hbl hP
  go_wp2_with fail
  go_ret
  exact ⟨_, rfl, HD.out, HK.out.trans f1 (fun _ _ h => h)⟩
end
end Go.Proofs.Qxb6500281aGreat
