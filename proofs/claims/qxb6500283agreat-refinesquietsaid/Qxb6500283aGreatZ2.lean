/- recall: a pattern that is not known. -/
import Derived.Test.Qxb6500283aGreatZ1
import Derived.Test.Qxb6500283aGreatPL8
namespace Go.Proofs.Qxb6500283aGreat
open Go Go.RowKit

theorem ModelL.det {p : ByteArray} {o o' : Ans} (h : ModelL p o) (h' : ModelL p o') : o = o' := by
  rcases h with ⟨h1, rfl⟩ | ⟨h1, h2⟩
  · rcases h' with ⟨_, rfl⟩ | ⟨h3, _⟩
    · rfl
    · omega
  · rcases h' with ⟨h3, _⟩ | ⟨_, h4⟩
    · omega
    · exact model_real h2 (model_ends h4)
/-- What a used cell of the memo holds. -/
inductive EntU (w : World) (p : ByteArray) : Ent → Prop
  | err {o : Ans} {e : Er} : ModelL p o → coreO o = .error e → EntU w p ⟨true, p, none, 0, 0, e.1, (e.2 : Nat)⟩
  | ok {ns : List Nd} {y g cb : Nat} {r : Rx} {code : List In} {f : Nat → Value} : ModelL p (.ok (ns, y, g)) → (zz ns y).2 ≤ 31 → OkProg code → IsT ns y r → RxW r → (∀ (s : ByteArray) (m a : Nat), a + m ≤ s.size + 1 → runFrom code s m a = leftG (wy s r) m a) →
      Blk w cb (code.length * 7) f → Holds7 f code → EntU w p ⟨true, p, some ⟨cb, 0, none⟩, code.length, code.length, 0, 0⟩
theorem coreO_err {p : ByteArray} {o : Ans} {e : Er} (h : ModelL p o) (he : coreO o = .error e) : e.1 ≠ 0 := by
  cases o with
  | error e' => cases he; exact h.err
  | ok t =>
    obtain ⟨ns, y, g⟩ := t
    simp only [coreO] at he
    split at he
    · cases he; simp
    · cases he
theorem coreO_ok {o : Ans} {t : List Nd × Nat × Nat} (h : coreO o = .ok t) : ∃ ns y g, o = .ok (ns, y, g) ∧ (zz ns y).2 ≤ 31 ∧ t = (coreL ns y, (coreL ns y).length - 1, g) := by
  cases o with
  | error e => cases h
  | ok u =>
    obtain ⟨ns, y, g⟩ := u
    simp only [coreO] at h
    split at h
    · cases h
    · cases h; exact ⟨ns, y, g, rfl, by omega, rfl⟩
def nF (p : ByteArray) (j : Nat) : Value := match j with | 0 => .bool true | 1 => .string p | 2 => .slice none 0 0 | _ => .int .i64 0
theorem nBlk (w : World) (p : ByteArray) : Blk (w.alloc (.cells #[.bool true, .string p, .slice none 0 0, .int .i64 0, .int .i64 0] 122)) w.heap.size 5 (nF p) :=
  Blk.new w _ _ _ fun o ho => by
    have ho : o < 5 := by simpa using ho
    obtain rfl | rfl | rfl | rfl | rfl : o = 0 ∨ o = 1 ∨ o = 2 ∨ o = 3 ∨ o = 4 := by omega
    all_goals rfl
section
variable {w : World} {e sm x pk df : Nat} {a b : Ent}
theorem newE {v5 : Value} (h : Blk w e 13 (eCell sm pk df a b)) (n : Ent) (h5 : v5 = .slice n.ca n.cn n.cc) : Blk ((((((((((w.setCell ⟨e, 8, none⟩ (.bool a.used)).setCell ⟨e, 9, none⟩ (.string a.pat)).setCell ⟨e, 10, none⟩ (.slice a.ca a.cn a.cc)).setCell ⟨e, 11, none⟩ (.int .i64 a.err)).setCell ⟨e, 12, none⟩ (.int .i64 a.pos)).setCell ⟨e, 3, none⟩ (.bool n.used)).setCell ⟨e, 4, none⟩ (.string n.pat)).setCell ⟨e, 5, none⟩ v5).setCell ⟨e, 6, none⟩ (.int .i64 n.err)).setCell ⟨e, 7, none⟩ (.int .i64 n.pos)) e 13 (eCell sm pk df n a) := by
  subst h5
  refine ((((((((((h.set 8 _).set 9 _).set 10 _).set 11 _).set 12 _).set 3 _).set 4 _).set 5 _).set 6 _).set 7 _).congr fun o ho => ?_
  rcases lt13 ho with rfl | rfl | rfl | rfl | rfl | rfl | rfl | rfl | rfl | rfl | rfl | rfl | rfl <;> simp [upd, eCell]
theorem newF (w : World) (e : Nat) (v3 v4 v5 v6 v7 v8 v9 v10 v11 v12 : Value) : Fr (fun x => x = e) w ((((((((((w.setCell ⟨e, 8, none⟩ v8).setCell ⟨e, 9, none⟩ v9).setCell ⟨e, 10, none⟩ v10).setCell ⟨e, 11, none⟩ v11).setCell ⟨e, 12, none⟩ v12).setCell ⟨e, 3, none⟩ v3).setCell ⟨e, 4, none⟩ v4).setCell ⟨e, 5, none⟩ v5).setCell ⟨e, 6, none⟩ v6).setCell ⟨e, 7, none⟩ v7) :=
  ((((((((((Fr.refl (fun x => x = e) w).setC e 8 v8 (fun _ => rfl)).setC e 9 v9 (fun _ => rfl)).setC e 10 v10 (fun _ => rfl)).setC e 11 v11 (fun _ => rfl)).setC e 12 v12 (fun _ => rfl)).setC e 3 v3 (fun _ => rfl)).setC e 4 v4 (fun _ => rfl)).setC e 5 v5 (fun _ => rfl)).setC e 6 v6 (fun _ => rfl)).setC e 7 v7 (fun _ => rfl)
set_option maxRecDepth 100000 in
set_option maxHeartbeats 8000000 in
theorem recall_new (hE : Blk w e 13 (eCell sm pk df a b)) (hA : SAny w sm x) (hx : x ≠ e) (hs : ¬ SAt sm e) (p : ByteArray) (ha : a.used = true → a.pat ≠ p) (hb : b.used = true → b.pat ≠ p) :
    Calls Tryz.prog 55 #[.pointer (some ⟨e, 0, none⟩), .string p] w fun v w' => v = .returned (.tuple #[]) ∧ ∃ n, EntU w' p n ∧ (∀ c, n.ca = some ⟨c, 0, none⟩ → w.heap.size ≤ c) ∧ Blk w' e 13 (eCell sm pk df n a) ∧ SAny w' sm x ∧ Fr (fun b => b = e ∨ b = x ∨ SAt sm b) w w' := by
  obtain ⟨c0, c1, c2, c3, c4, c5, c6, c7, c8, c9, c10, c11, c12⟩ := eCells hE
  have hl := hE.lt
  have t1 : a.used = false ∨ (a.used = true ∧ (a.pat.toList == p.toList) = false) := by
    cases hu : a.used with
    | false => exact .inl rfl
    | true => exact .inr ⟨rfl, strNe (ha hu)⟩
  have t2 : b.used = false ∨ (b.used = true ∧ (b.pat.toList == p.toList) = false) := by
    cases hu : b.used with
    | false => exact .inl rfl
    | true => exact .inr ⟨rfl, strNe (hb hu)⟩
  clear ha hb
  have hfe : ¬ (e = x ∨ SAt sm e) := fun h => h.elim (fun h => hx h.symm) hs
  go_enter Tryz.func55, Tryz.ntmps55
  rcases t1 with t1 | ⟨t1, n1⟩ <;> rcases t2 with t2 | ⟨t2, n2⟩
  all_goals rw [t1] at c3; rw [t2] at c8
  all_goals go_wp2_with fail
  all_goals refine (core_any hA p).mono ?_
  all_goals rintro v w1 ⟨o, hM, hP, hA1, f1⟩
  all_goals have hE1 := hE.frame f1 hfe
  all_goals obtain ⟨d0, d1, d2, d3, d4, d5, d6, d7, d8, d9, d10, d11, d12⟩ := eCells hE1
  all_goals have hl1 := hE1.lt
  all_goals have z1 := hE1.frozen
  all_goals rw [t1] at d3
  all_goals rw [t2] at d8
  all_goals cases ho : coreO o with
    | error er =>
      rw [ho] at hP
      obtain rfl := hP
      have hne := coreO_err hM ho
      have hne1 : (er.1 == 0) = false := by simpa using hne
      have HM : Hid _ := hM
      have HO : Hid _ := ho
      clear hM ho hne
      unfold trErr
      go_wp2_with fail
      refine wp_region_text (by kernel_rfl) (by kernel_rfl) ?_
      go_wp2_with fail
      refine ⟨by kernel_rfl, ?_⟩
      go_wp2_with fail
      refine wp_region_text (by kernel_rfl) (by kernel_rfl) ?_
      go_wp2_with fail
      refine ⟨by kernel_rfl, ?_⟩
      go_wp2_with fail
      go_end0
      have hS := newE hE1 ⟨true, p, none, 0, 0, er.1, (er.2 : Nat)⟩ rfl
      have hF := newF w1 e (.bool true) (.string p) (.slice none 0 0) (.int .i64 er.1) (.int .i64 (er.2 : Nat)) (.bool a.used) (.string a.pat) (.slice a.ca a.cn a.cc) (.int .i64 a.err) (.int .i64 a.pos)
      rw [t1] at hS hF
      have K := (((hF.alloc (.cells #[.slice none 0 0, .int .i64 (-1), .int .i64 0, .int .i64 er.1, .int .i64 (er.2 : Nat)] 148)).alloc (.cells #[.bool true, .string p, .slice none 0 0, .int .i64 er.1, .int .i64 (er.2 : Nat)] 122)).drew).drew
      refine ⟨rfl, ⟨true, p, none, 0, 0, er.1, (er.2 : Nat)⟩, .err HM.out HO.out, fun c h => (by cases h), ?_, ?_, ?_⟩
      · exact hS.frame ((((Fr.refl (fun _ => False) _).alloc _).alloc _).drew).drew (fun h => h)
      · exact hA1.frame K hx (fun b h h2 => hs (h2 ▸ h))
      · exact (f1.mono (fun _ _ h => .inr h)).trans (K.mono (fun _ _ h => .inl h)) (fun _ _ h => h)
    | ok t =>
      obtain ⟨ns, y, g, rfl, hz, rfl⟩ : ∃ ns y g, o = .ok (ns, y, g) ∧ (zz ns y).2 ≤ 31 ∧ t = (coreL ns y, (coreL ns y).length - 1, g) := coreO_ok ho
      rw [ho] at hP
      obtain ⟨bk, hbk, rfl, fb, hB, hH⟩ := hP
      obtain ⟨code, r, hC, hT, hW, hR⟩ := compiled hM hz
      have hO := ndsOk hM
      have hlen := coreL_len hM.tree.1 hz
      have HM : Hid _ := hM
      have HZ : Hid _ := hz
      clear hM ho hz
      generalize hcl : coreL ns y = cl at *
      have hN := hH.at hB (Nat.le_refl _)
      have hbl := hB.lt
      have k0 := ((Fr.refl (fun _ => False) w1).alloc (.cells #[.slice (some ⟨bk, 0, none⟩) cl.length cl.length, .int .i64 ((cl.length - 1 : Nat) : Int), .int .i64 (g : Nat), .int .i64 0, .int .i64 0] 148)).alloc (.cells #[.bool true, .string p, .slice none 0 0, .int .i64 0, .int .i64 0] 122)
      go_wp2_with fail
      refine (compileB_any (hN.frame k0 (fun h => h)) (by have := k0.size; omega) hO hlen.1 hC).mono ?_
      rintro v w2 ⟨cb, fc, rfl, hcb, f2, hcB, hcH⟩
      have hE2 := (hE1.frame k0 (fun h => h)).frame f2 (fun h => h)
      clear d0 d1 d2 d3 d4 d5 d6 d7 d8 d9 d10 d11 d12 c0 c1 c2 c3 c4 c5 c6 c7 c8 c9 c10 c11 c12
      obtain ⟨d0, d1, d2, d3, d4, d5, d6, d7, d8, d9, d10, d11, d12⟩ := eCells hE2
      rw [t1] at d3
      rw [t2] at d8
      have hl2 := hE2.lt
      have z2 := hE2.frozen
      have hnb : Blk w2 (w1.heap.size + 1) 5 (nF p) := by
        have := nBlk (w1.alloc (.cells #[.slice (some ⟨bk, 0, none⟩) cl.length cl.length, .int .i64 ((cl.length - 1 : Nat) : Int), .int .i64 (g : Nat), .int .i64 0, .int .i64 0] 148)) p
        rw [World.size_alloc] at this
        exact this.frame f2 (fun h => h)
      have q0 : w2.cell? ⟨w1.heap.size + 1, 0, none⟩ = some (.bool true) := hnb.cell (by omega)
      have q1 : w2.cell? ⟨w1.heap.size + 1, 1, none⟩ = some (.string p) := hnb.cell (by omega)
      have q2 : w2.cell? ⟨w1.heap.size + 1, 2, none⟩ = some (.slice none 0 0) := hnb.cell (by omega)
      have q3 : w2.cell? ⟨w1.heap.size + 1, 3, none⟩ = some (.int .i64 0) := hnb.cell (by omega)
      have q4 : w2.cell? ⟨w1.heap.size + 1, 4, none⟩ = some (.int .i64 0) := hnb.cell (by omega)
      have qz := hnb.frozen
      have ql := hnb.lt
      have hne : e ≠ w1.heap.size + 1 := by omega
      go_wp2_with fail
      refine wp_region_text (by kernel_rfl) (by kernel_rfl) ?_
      go_wp2_with fail
      refine ⟨by kernel_rfl, ?_⟩
      go_wp2_with fail
      refine wp_region_text (by kernel_rfl) (by kernel_rfl) ?_
      go_wp2_with fail
      refine ⟨by kernel_rfl, ?_⟩
      go_wp2_with fail
      go_end0
      have hcb' : w1.heap.size + 2 ≤ cb := by
        have := hcb
        simp only [World.size_alloc] at this
        omega
      have k3 := (Fr.refl (fun b => b = w1.heap.size + 1) w2).setC (w1.heap.size + 1) 2 (.slice (some ⟨cb, 0, none⟩) code.length code.length) (fun _ => rfl)
      have hE3 := hE2.frame k3 hne
      have hS := newE hE3 ⟨true, p, some ⟨cb, 0, none⟩, code.length, code.length, 0, 0⟩ rfl
      have hF := newF (w2.setCell ⟨w1.heap.size + 1, 2, none⟩ (.slice (some ⟨cb, 0, none⟩) code.length code.length)) e (.bool true) (.string p) (.slice (some ⟨cb, 0, none⟩) code.length code.length) (.int .i64 0) (.int .i64 0) (.bool a.used) (.string a.pat) (.slice a.ca a.cn a.cc) (.int .i64 a.err) (.int .i64 a.pos)
      rw [t1] at hS hF
      have K := (hF.drew).drew
      have G1 : Fr (fun b => b = e) w1 w2 := (k0.trans f2 (fun _ _ h => h)).mono (fun _ _ h => h.elim)
      have G2 := G1.trans k3 (fun b hb h => by omega)
      have G3 := G2.trans K (fun _ _ h => h)
      refine ⟨rfl, ⟨true, p, some ⟨cb, 0, none⟩, code.length, code.length, 0, 0⟩, .ok HM.out HZ.out hC.ok hT hW hR ((hcB.frame k3 (by omega)).frame K (by omega)) hcH, fun c h => (by cases h; have := f1.size; omega), ?_, ?_, ?_⟩
      · exact hS.frame ((Fr.refl (fun _ => False) _).drew).drew (fun h => h)
      · exact hA1.frame G3 hx (fun b h h2 => hs (h2 ▸ h))
      · exact (f1.mono (fun _ _ h => .inr h)).trans (G3.mono (fun _ _ h => .inl h)) (fun _ _ h => h)
end
end Go.Proofs.Qxb6500283aGreat
