/- The law: SameCore. -/
import Derived.Test.Qxb6500286aK3
namespace Go.Proofs.Qxb6500286a
open Go Go.RowKit

theorem ModelL.det {p : ByteArray} {o o' : Ans} (h : ModelL p o) (h' : ModelL p o') : o = o' := by
  rcases h with ⟨h1, rfl⟩ | ⟨h1, h2⟩
  · rcases h' with ⟨_, rfl⟩ | ⟨h3, _⟩
    · rfl
    · omega
  · rcases h' with ⟨h3, _⟩ | ⟨_, h4⟩
    · omega
    · exact model_real h2 (model_ends h4)
def nsOf (o : Ans) : List Nd := match o with | .error _ => [] | .ok (ns, _, _) => ns
def yOf (o : Ans) : Int := match o with | .error _ => -1 | .ok (_, y, _) => (y : Nat)
def gOf (o : Ans) : Int := match o with | .error _ => 0 | .ok (_, _, g) => (g : Nat)
def eOf (o : Ans) : Int := match o with | .error e => e.1 | .ok _ => 0
def qOf (o : Ans) : Int := match o with | .error e => (e.2 : Nat) | .ok _ => 0
def COk (o : Ans) : Prop := match o with | .error _ => True | .ok (ns, _, _) => 1 ≤ ns.length ∧ ns.length ≤ 31
theorem ModelL.core {p : ByteArray} {o : Ans} (h : ModelL p o) : COk (coreO o) := by
  cases o with
  | error e => trivial
  | ok t =>
    obtain ⟨ns, y, g⟩ := t
    by_cases hz : 31 < (zz ns y).2
    · rw [show coreO (.ok (ns, y, g)) = .error (8, 0) from if_pos hz]; trivial
    · rw [show coreO (.ok (ns, y, g)) = .ok (coreL ns y, (coreL ns y).length - 1, g) from if_neg hz]
      exact coreL_len h.tree.1 (by omega)
theorem nsOf_len {o : Ans} (h : COk o) : (nsOf o).length ≤ 31 := by
  cases o with
  | error e => simp [nsOf]
  | ok v => exact h.2
theorem ParsePost.tree {w w' : World} {o : Ans} {v : Ending} (h : ParsePost w o v w') : ∃ aa, v = .returned (treeV (.slice aa (nsOf o).length (nsOf o).length) (yOf o) (gOf o) (eOf o) (qOf o)) ∧ (COk o → LVn w' (.slice aa (nsOf o).length (nsOf o).length) (nsOf o)) ∧ ∀ b, isBlk (.slice aa (nsOf o).length (nsOf o).length) b → w.heap.size ≤ b := by
  cases o with
  | error e => exact ⟨none, h, fun _ => .inl ⟨rfl, rfl⟩, fun b hb => absurd hb (noBlk b)⟩
  | ok v =>
    obtain ⟨ns, y, g⟩ := v
    obtain ⟨b, hb, hv, f, hbk, hf⟩ := h
    exact ⟨_, hv, fun hok => .inr ⟨b, f, rfl, hbk, hf, hok.1⟩, fun c hc => by obtain ⟨_, _, e⟩ := hc; injection e with e; injection e with e; injection e with e; omega⟩
def Own (s x m sp d bb b : Nat) : Prop := b = x ∨ SAt s b ∨ b = m ∨ b = sp ∨ b = d ∨ b = bb
structure LawInv (w : World) (lo s x m sp d bb : Nat) (D : Dk) (ns : List Nd) (c : Nat) : Prop where
  real : SAny w s x
  model : MC w m sp c
  desk : Blk w d 9 (dkCell D)
  pat : D.pat.size ≤ 129
  sub : D.sub.size ≤ 257
  lx : LVn w D.lx ns
  lm : LVn w D.lm ns
  len : ns.length ≤ 31
  old : Old4 w D
  xm : x ≠ m ∧ x ≠ sp ∧ x ≠ d
  sm : ∀ b, SAt s b → b ≠ m ∧ b ≠ sp ∧ b ≠ d
  md : m ≠ d ∧ sp ≠ d
  box : Blk w bb 1 (fun _ => .pointer (some ⟨x, 0, none⟩))
  bbo : bb ≠ x ∧ ¬ SAt s bb ∧ bb ≠ m ∧ bb ≠ sp ∧ bb ≠ d
  los : lo ≤ s
  lox : lo ≤ x
  lom : lo ≤ m ∧ lo ≤ sp
  lod : lo ≤ d
  bx : ∀ b, isBlk D.lx b → ¬ Own s x m sp d bb b ∧ lo ≤ b ∧ ∀ k, k < 4 → ¬ isBlk (D.old k) b
  bm : ∀ b, isBlk D.lm b → ¬ Own s x m sp d bb b
  bo : ∀ k, k < 4 → ∀ b, isBlk (D.old k) b → ¬ Own s x m sp d bb b
  n : D.n ≤ c
theorem LawInv.frame {w w' : World} {lo s x m sp d bb : Nat} {D : Dk} {ns : List Nd} {c : Nat} (h : LawInv w lo s x m sp d bb D ns c) (k : Fr (fun _ => False) w w') : LawInv w' lo s x m sp d bb D ns c :=
  ⟨h.real.frame k (fun h => h) (fun _ _ h => h), h.model.frame k (fun h => h) (fun h => h), h.desk.frame k (fun h => h), h.pat, h.sub, h.lx.frame k (fun _ _ h => h), h.lm.frame k (fun _ _ h => h), h.len, h.old.frame k (fun _ _ _ _ h => h), h.xm, h.sm, h.md, h.box.frame k (fun h => h), h.bbo, h.los, h.lox, h.lom, h.lod, h.bx, h.bm, h.bo, h.n⟩
theorem SAny.lt {w : World} {s x : Nat} (h : SAny w s x) : x < w.heap.size ∧ s + 5 < w.heap.size := by
  obtain ⟨⟨out, _, hS⟩, _, hX, _⟩ := h
  have hsl := hS.cells.2.2.2.2
  obtain ⟨f, iv, ns, g, t, r, e, q, hb, _⟩ := hX
  exact ⟨hb.lt, hsl⟩
set_option maxHeartbeats 400000 in
theorem mark_any (v0 : Option Addr) (w : World) : Calls Try.prog 64 #[.agg #[.pointer v0]] w fun e w' => e = .returned (.tuple #[]) ∧ Fr (fun _ => False) w w' := by
  go_enter Try.func64, Try.ntmps64
  go_wp2_with fail
  go_end0
  exact ⟨rfl, (Fr.refl _ _).alloc _⟩
set_option maxHeartbeats 400000 in
theorem calls_any (v0 : Option Addr) (w : World) : Calls Try.prog 65 #[.agg #[.pointer v0]] w fun e w' => e = .returned (.int .i64 (-1)) ∧ Fr (fun _ => False) w w' := by
  go_enter Try.func65, Try.ntmps65
  go_wp2_with fail
  go_ret
  exact ⟨rfl, (Fr.refl _ _).alloc _⟩
theorem Blk.tree (w : World) (v : Value) (y g e q : Int) : Blk (w.alloc (.cells #[v, .int .i64 y, .int .i64 g, .int .i64 e, .int .i64 q] 41)) w.heap.size 5 (fun o => (#[v, .int .i64 y, .int .i64 g, .int .i64 e, .int .i64 q] : Array Value).getD o undef) :=
  Blk.new w _ _ _ fun o ho => by
    rcases lt5 (show o < 5 by simpa using ho) with rfl | rfl | rfl | rfl | rfl <;> rfl
theorem getD5 (a b c d e : Value) : (#[a, b, c, d, e] : Array Value).getD 0 undef = a ∧ (#[a, b, c, d, e] : Array Value).getD 1 undef = b ∧ (#[a, b, c, d, e] : Array Value).getD 2 undef = c ∧ (#[a, b, c, d, e] : Array Value).getD 3 undef = d ∧ (#[a, b, c, d, e] : Array Value).getD 4 undef = e := ⟨rfl, rfl, rfl, rfl, rfl⟩
def nowD (D : Dk) (a b : Value) : Dk := ⟨D.pat, D.sub, a, b, D.old, D.n⟩
theorem dkCell_now (D : Dk) (a b : Value) : ∀ o, o < 9 → upd (upd (dkCell D) 2 a) 3 b o = dkCell (nowD D a b) o := by
  intro o ho
  rcases (show o = 0 ∨ o = 1 ∨ o = 2 ∨ o = 3 ∨ o = 4 ∨ o = 5 ∨ o = 6 ∨ o = 7 ∨ o = 8 by omega) with rfl | rfl | rfl | rfl | rfl | rfl | rfl | rfl | rfl <;> simp [dkCell, upd, nowD]
def SPost (w : World) (lo s x m sp d bb : Nat) (D : Dk) (c : Nat) (e : Ending) (w' : World) : Prop :=
  e = .returned (.bool true) ∧ (∃ D' ns', D'.pat = D.pat ∧ LawInv w' lo s x m sp d bb D' ns' (c + 1)) ∧ Fr (fun b => lo ≤ b) w w'
set_option maxRecDepth 100000 in
set_option maxHeartbeats 8000000 in
theorem sameCore_any {w : World} {lo s x m sp d bb : Nat} {D : Dk} {ns : List Nd} {c : Nat} (h0 : LawInv w lo s x m sp d bb D ns c) (hc : c ≤ 9999999999999) (p : ByteArray) :
    Calls Try.prog 50 #[.agg #[.pointer (some ⟨x, 0, none⟩)], .pointer (some ⟨s, 0, none⟩), .pointer (some ⟨m, 0, none⟩), .pointer (some ⟨d, 0, none⟩), .string p] w (SPost w lo s x m sp d bb D c) := by
  have fb := (Fr.refl (fun _ => False) w).alloc (.cells #[.pointer (some ⟨x, 0, none⟩)] 27)
  have hbb : Blk (w.alloc (.cells #[.pointer (some ⟨x, 0, none⟩)] 27)) w.heap.size 1 (fun _ => .pointer (some ⟨x, 0, none⟩)) := Blk.new w _ _ _ fun o ho => by
    obtain rfl : o = 0 := by simpa using ho
    rfl
  go_enter Try.func50, Try.ntmps50
  go_wp2_with fail
  refine (mark_any _ _).mono ?_
  rintro v w0 ⟨rfl, f0⟩
  have F0 := fb.trans f0 (fun _ _ h => h)
  have h := h0.frame F0
  have hbb0 := hbb.frame f0 (fun h => h)
  clear fb hbb
  have hbl0 := hbb0.lt
  obtain ⟨hxl, hsl⟩ := h.real.lt
  have hml := h.model.1.lt
  have hdl := h.desk.lt
  go_wp2_with fail
  refine (core_any h.real p).mono ?_
  rintro v1 w1 ⟨o1, hM1, hP1, hA1, f1⟩
  have hw1 := f1.size
  have h0x := h0.real.lt
  have hm1 := h.model.frame f1 (fun e => e.elim (fun e => h.xm.1 e.symm) (fun e => (h.sm _ e).1 rfl)) (fun e => e.elim (fun e => h.xm.2.1 e.symm) (fun e => (h.sm _ e).2.1 rfl))
  have hbb1 := hbb0.frame f1 (fun e => e.elim (fun e => by omega) (fun e => by unfold SAt at e; omega))
  obtain ⟨aa, rfl, hL1, hB1⟩ := hP1.tree
  have HM1 : Hid _ := hM1
  have HL1 : Hid _ := hL1
  clear hM1 hP1 hL1
  unfold treeV
  have hTA := Blk.tree w1 (.slice aa (nsOf (coreO o1)).length (nsOf (coreO o1)).length) (yOf (coreO o1)) (gOf (coreO o1)) (eOf (coreO o1)) (qOf (coreO o1))
  have fA := (Fr.refl (fun _ => False) w1).alloc (.cells #[.slice aa (nsOf (coreO o1)).length (nsOf (coreO o1)).length, .int .i64 (yOf (coreO o1)), .int .i64 (gOf (coreO o1)), .int .i64 (eOf (coreO o1)), .int .i64 (qOf (coreO o1))] 41)
  have hbbA := hbb1.frame fA (fun h => h)
  have bA := hbbA.cell (o := 0) (by omega)
  have hblA := hbbA.lt
  go_wp2_with fail
  refine (calls_any _ _).mono ?_
  rintro v wc ⟨rfl, fc⟩
  have hmA := (hm1.frame fA (fun h => h) (fun h => h)).frame fc (fun h => h) (fun h => h)
  have hbig : (decide ((128 : Int) < p.size) = true) ∨ (decide ((128 : Int) < p.size) = false) := by
    cases decide ((128 : Int) < p.size) <;> simp
  have HCM : Hid (Calls Try.prog 66 #[.pointer (some ⟨m, 0, none⟩), .string p] wc fun v w' => ∃ o, ModelL p o ∧ ParsePost wc (coreO o) v w' ∧ MC w' m sp (c + 1) ∧ Fr (fun b => b = m ∨ b = sp) wc w') := coreM_any hmA (by omega) p
  clear bA hblA
  rcases hbig with hbig | hbig
  all_goals
    go_wp2_with fail
    refine Calls.mono HCM.out ?_
    rintro v2 w2 ⟨o2, hM2, hP2, hm2, f2⟩
    have hoo := ModelL.det HM1.out hM2
    have hok := ModelL.core hM2
    subst hoo
    have hwc := fc.size
    have hw2 := f2.size
    simp only [World.size_alloc] at hwc
    obtain ⟨ab, rfl, hL2', hB2⟩ := hP2.tree
    have hL2 := hL2' hok
    have hL1 := HL1.out hok
    have hn31 := nsOf_len hok
    clear HM1 HL1 hM2 hP2 hL2' hok HCM hbig
    generalize nsOf (coreO o1) = ns1 at *
    generalize yOf (coreO o1) = y at *
    generalize gOf (coreO o1) = g at *
    generalize eOf (coreO o1) = e at *
    generalize qOf (coreO o1) = q at *
    have fAc := fA.trans fc (fun _ _ h => h)
    have hTB := Blk.tree w2 (.slice ab ns1.length ns1.length) y g e q
    have fB := (Fr.refl (fun _ => False) w2).alloc (.cells #[.slice ab ns1.length ns1.length, .int .i64 y, .int .i64 g, .int .i64 e, .int .i64 q] 41)
    have F2 := ((f1.trans fAc (fun _ _ h => h.elim)).mono (S' := fun b => (b = x ∨ SAt s b) ∨ (b = m ∨ b = sp)) (fun _ _ h => .inl h)).trans f2 (fun _ _ h => .inr h)
    have FB := F2.trans fB (fun _ _ h => h.elim)
    have hmlt := h.model.2.2
    have hTA2 := ((hTA.frame fc (fun h => h)).frame f2 (by omega)).frame fB (fun h => h)
    have hL1A := ((hL1.frame fAc (fun _ _ h => h)).frame f2 (fun b hb e => by have := hB1 b hb; omega)).frame fB (fun _ _ h => h)
    have hL2B := hL2.frame fB (fun _ _ h => h)
    have hA2 := ((hA1.frame fAc (fun h => h) (fun _ _ h => h)).frame f2 (fun e => e.elim h.xm.1 h.xm.2.1) (fun b hb e => e.elim (h.sm b hb).1 (h.sm b hb).2.1)).frame fB (fun h => h) (fun _ _ h => h)
    have hm3 := hm2.frame fB (fun h => h) (fun h => h)
    unfold treeV
    clear hTA hmA
    have hOwn : ∀ b, ¬ Own s x m sp d bb b → ¬ ((b = x ∨ SAt s b) ∨ (b = m ∨ b = sp)) := fun b hb e => (by
      rcases e with (e | e) | e | e
      · exact hb (.inl e)
      · exact hb (.inr (.inl e))
      · exact hb (.inr (.inr (.inl e)))
      · exact hb (.inr (.inr (.inr (.inl e))))
      )
    have hd5 := h.desk.frame FB (fun e => (by
      rcases e with (e | e) | e | e
      · exact h.xm.2.2 e.symm
      · exact (h.sm _ e).2.2 rfl
      · exact h.md.1 e.symm
      · exact h.md.2 e.symm
      ))
    have hlx5 := h.lx.frame FB (fun b hb => hOwn b (h.bx b hb).1)
    have hlm5 := h.lm.frame FB (fun b hb => hOwn b (h.bm b hb))
    have ho5 := h.old.frame FB (fun k hk b hb => hOwn b (h.bo k hk b hb))
    have hdO : Own s x m sp d bb d := .inr (.inr (.inr (.inr (.inl rfl))))
    go_wp2_with fail
    refine (again_any hd5 hlx5 hlm5 h.len ho5 (fun b hb => ⟨fun e => (h.bx b hb).1 (e ▸ hdO), (h.bx b hb).2.2⟩) (fun k hk e => h.bo k hk d e hdO) (by have := h.n; omega)).mono ?_
    rintro v w6 ⟨rfl, f6, D', hD', hd6, ho6⟩
    have hlxb : ∀ b, isBlk D.lx b → b < w0.heap.size := fun b hb => h.lx.lt hb
    have hTA6 := hTA2.frame f6 (fun e => e.elim (fun e => by omega) (fun e => by have := hlxb _ e; omega))
    have hTB6 := hTB.frame f6 (fun e => e.elim (fun e => by omega) (fun e => by have := hlxb _ e; omega))
    have hL1C := hL1A.frame f6 (fun b hb e => e.elim (fun e => by have := hB1 b hb; omega) (fun e => by have := hB1 b hb; have := hlxb b e; omega))
    have hL2C := hL2B.frame f6 (fun b hb e => e.elim (fun e => by have := hB2 b hb; omega) (fun e => by have := hB2 b hb; have := hlxb b e; omega))
    have a0 := hTA6.cell (o := 0) (by omega)
    have a1 := hTA6.cell (o := 1) (by omega)
    have a2 := hTA6.cell (o := 2) (by omega)
    have a3 := hTA6.cell (o := 3) (by omega)
    have a4 := hTA6.cell (o := 4) (by omega)
    have b0 := hTB6.cell (o := 0) (by omega)
    have b1 := hTB6.cell (o := 1) (by omega)
    have b2 := hTB6.cell (o := 2) (by omega)
    have b3 := hTB6.cell (o := 3) (by omega)
    have b4 := hTB6.cell (o := 4) (by omega)
    simp only [getD5] at a0 a1 a2 a3 a4 b0 b1 b2 b3 b4
    have hlA6 := hTA6.lt
    have hlB6 := hTB6.lt
    have hst := sameTree_any hL1C hL2C hn31 y g e q
    unfold treeV at hst
    have Hst : Hid _ := hst
    clear hst
    go_wp2_with fail
    refine Calls.mono Hst.out ?_
    rintro v w7 ⟨rfl, f7⟩
    clear a0 a1 a2 a3 a4 b0 b1 b2 b3 b4 Hst
    have hTA7 := hTA6.frame f7 (fun h => h)
    have hTB7 := hTB6.frame f7 (fun h => h)
    have hd7 := hd6.frame f7 (fun h => h)
    have ho7 := Old4.frame ho6 f7 (fun _ _ _ _ h => h)
    have a0 := hTA7.cell (o := 0) (by omega)
    have b0 := hTB7.cell (o := 0) (by omega)
    simp only [getD5] at a0 b0
    have hlA7 := hTA7.lt
    have hlB7 := hTB7.lt
    have z7 := hd7.frozen
    have d2 := hd7.cell (o := 2) (by omega)
    have d3 := hd7.cell (o := 3) (by omega)
    have hdl7 := hd7.lt
    have hdF := (((hd7.set 2 (.slice aa ns1.length ns1.length)).set 3 (.slice ab ns1.length ns1.length)).congr (dkCell_now D' _ _))
    have FD := (((Fr.refl (fun b => b = d) w7).setC d 2 (.slice aa ns1.length ns1.length) (fun _ => rfl)).setC d 3 (.slice ab ns1.length ns1.length) (fun _ => rfl))
    have f67 := f6.trans f7 (fun _ _ h => h.elim)
    have f56 := f67.trans FD (S := fun b => b = d ∨ isBlk D.lx b) (fun _ _ e => .inl e)
    have hfin : LawInv ((w7.setCell ⟨d, 2, none⟩ (.slice aa ns1.length ns1.length)).setCell ⟨d, 3, none⟩ (.slice ab ns1.length ns1.length)) lo s x m sp d bb (nowD D' (.slice aa ns1.length ns1.length) (.slice ab ns1.length ns1.length)) ns1 (c + 1) := by
      have hold : ∀ k, k < 4 → ∀ b, isBlk (D'.old k) b → b < w0.heap.size ∧ ¬ Own s x m sp d bb b := fun k hk b hb => by
        have key : isBlk (D.old k) b ∨ isBlk D.lx b := by
          rcases hD' with rfl | rfl
          · by_cases he : k = D.n % 4
            · right; simpa [keepD, upd, he] using hb
            · left; simpa [keepD, upd, he] using hb
          · exact .inl hb
        rcases key with k1 | k1
        · obtain ⟨n, _, hv⟩ := h.old k hk
          exact ⟨hv.lt k1, h.bo k hk b k1⟩
        · exact ⟨hlxb b k1, (h.bx b k1).1⟩
      have hn : D'.n ≤ c + 1 ∧ D'.pat = D.pat ∧ D'.sub = D.sub := by
        have := h.n
        rcases hD' with rfl | rfl
        · exact ⟨by simp only [keepD]; omega, rfl, rfl⟩
        · exact ⟨by simp only [dropD]; omega, rfl, rfl⟩
      have hb1 : ∀ b, isBlk (.slice aa ns1.length ns1.length) b → w0.heap.size ≤ b := hB1
      have hb2 : ∀ b, isBlk (.slice ab ns1.length ns1.length) b → w0.heap.size ≤ b := fun b hb => by have := hB2 b hb; omega
      have hbbl := h.box.lt
      have hbox7 := (h.box.frame FB (fun e => (by
      rcases e with (e | e) | e | e
      · exact h.bbo.1 e
      · exact h.bbo.2.1 e
      · exact h.bbo.2.2.1 e
      · exact h.bbo.2.2.2.1 e
      ))).frame f56 (fun e => e.elim h.bbo.2.2.2.2 (fun e => (h.bx bb e).1 (.inr (.inr (.inr (.inr (.inr rfl)))))))
      have hnew : ∀ b, w0.heap.size ≤ b → ¬ Own s x m sp d bb b := fun b hb e => by unfold Own SAt at e; omega
      refine ⟨?_, ?_, hdF, by simp only [nowD]; rw [hn.2.1]; exact h.pat, by simp only [nowD]; rw [hn.2.2]; exact h.sub, ?_, ?_, hn31, ?_, h.xm, h.sm, h.md, hbox7, h.bbo, h.los, h.lox, h.lom, h.lod, ?_, ?_, ?_, hn.1⟩
      · exact hA2.frame f56 (fun e => e.elim h.xm.2.2 (fun e => (h.bx x e).1 (.inl rfl))) (fun b hb e => e.elim (h.sm b hb).2.2 (fun e => (h.bx b e).1 (.inr (.inl hb))))
      · exact hm3.frame f56 (fun e => e.elim h.md.1 (fun e => (h.bx m e).1 (.inr (.inr (.inl rfl))))) (fun e => e.elim h.md.2 (fun e => (h.bx sp e).1 (.inr (.inr (.inr (.inl rfl))))))
      · exact hL1A.frame f56 (fun b hb e => e.elim (fun e => by have := hb1 b hb; omega) (fun e => by have := hb1 b hb; have := hlxb b e; omega))
      · exact hL2B.frame f56 (fun b hb e => e.elim (fun e => by have := hb2 b hb; omega) (fun e => by have := hb2 b hb; have := hlxb b e; omega))
      · exact Old4.frame (D := D') ho7 FD (fun k hk b hb e => (hold k hk b hb).2 (e ▸ hdO))
      · exact fun b hb => ⟨hnew b (hb1 b hb), by have := hb1 b hb; have := h.lox; omega, fun k hk e => by have := hb1 b hb; have := (hold k hk b e).1; omega⟩
      · exact fun b hb => hnew b (hb2 b hb)
      · exact fun k hk b hb => (hold k hk b hb).2
    have hpat : (nowD D' (.slice aa ns1.length ns1.length) (.slice ab ns1.length ns1.length)).pat = D.pat := by
      rcases hD' with rfl | rfl <;> rfl
    have FF := ((F0.mono (S' := fun b => lo ≤ b) (fun _ _ h => h.elim)).trans (FB.mono (S' := fun b => lo ≤ b) (fun b _ e => by have := h.lox; have := h.los; have := h.lom; unfold SAt at e; omega)) (fun _ _ h => h)).trans f56 (fun b _ e => e.elim (fun e => by have := h.lod; omega) (fun e => (h.bx b e).2.1))
    have Hfin : Hid (SPost w lo s x m sp d bb D c (.returned (.bool true)) ((w7.setCell ⟨d, 2, none⟩ (.slice aa ns1.length ns1.length)).setCell ⟨d, 3, none⟩ (.slice ab ns1.length ns1.length))) := ⟨rfl, ⟨_, _, hpat, hfin⟩, FF⟩
    clear hfin hdF FD f56 FF hpat
    go_wp2_with fail
    go_ret
    exact Hfin.out
end Go.Proofs.Qxb6500286a
