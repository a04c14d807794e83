/- The law: SameParse. -/
import Derived.Test.Qxb6500287aL4
import Derived.Test.Qxb6500287aB12
import Derived.Test.Qxb6500287aB13
import Derived.Test.Qxb6500287aSyn3
namespace Go.Proofs.Qxb6500287a
open Go Go.RowKit

theorem answers {p : ByteArray} {o o' : Ans} (h : EndsL p o) (h' : ModelL p o') : o = o' := by
  rcases h with ⟨h1, rfl⟩ | ⟨h1, h2⟩
  · rcases h' with ⟨_, rfl⟩ | ⟨h3, _⟩
    · rfl
    · omega
  · rcases h' with ⟨h3, _⟩ | ⟨_, h4⟩
    · omega
    · exact (model_real h4 h2).symm
theorem ModelL.ok {p : ByteArray} {o : Ans} (h : ModelL p o) : AnsOk p o := by
  rcases h with ⟨_, rfl⟩ | ⟨_, h⟩
  · exact ⟨by simp, by simp⟩
  · exact h.ok'
structure LawInv (w : World) (lo x m d : Nat) (D : Dk) (ns : List Nd) (c : Nat) : Prop where
  real : RAny w x ⟨#[]⟩
  model : Blk w m 1 (fun _ => .int .i64 (c : Nat))
  desk : Blk w d 8 (dkCell D)
  pat : D.pat.size ≤ 129
  lx : LVn w D.lx ns
  lm : LVn w D.lm ns
  len : ns.length ≤ 24
  old : Old4 w D
  xm : x ≠ m
  xd : x ≠ d
  md : m ≠ d
  lox : lo ≤ x
  lom : lo ≤ m
  lod : lo ≤ d
  bx : ∀ b, isBlk D.lx b → b ≠ x ∧ b ≠ m ∧ b ≠ d ∧ lo ≤ b ∧ ∀ k, k < 4 → ¬ isBlk (D.old k) b
  bm : ∀ b, isBlk D.lm b → b ≠ x ∧ b ≠ m ∧ b ≠ d
  bo : ∀ k, k < 4 → ∀ b, isBlk (D.old k) b → b ≠ x ∧ b ≠ m ∧ b ≠ d
  n : D.n ≤ c
theorem RAny.lt {w : World} {x : Nat} {p : ByteArray} (h : RAny w x p) : x < w.heap.size := by
  obtain ⟨f, iv, ns, g, t, r, e, q, hb, hL, h2⟩ := h
  exact hb.lt
theorem LawInv.frame {w w' : World} {lo x m d : Nat} {D : Dk} {ns : List Nd} {c : Nat} (h : LawInv w lo x m d D ns c) (k : Fr (fun _ => False) w w') : LawInv w' lo x m d D ns c :=
  ⟨h.real.frame k (fun h => h), h.model.frame k (fun h => h), h.desk.frame k (fun h => h), h.pat, h.lx.frame k (fun _ _ h => h), h.lm.frame k (fun _ _ h => h), h.len, h.old.frame k (fun _ _ _ _ h => h), h.xm, h.xd, h.md, h.lox, h.lom, h.lod, h.bx, h.bm, h.bo, h.n⟩
def nsOf (o : Ans) : List Nd := match o with | .error _ => [] | .ok (ns, _, _) => ns
def yOf (o : Ans) : Int := match o with | .error _ => -1 | .ok (_, y, _) => (y : Nat)
def gOf (o : Ans) : Int := match o with | .error _ => 0 | .ok (_, _, g) => (g : Nat)
def eOf (o : Ans) : Int := match o with | .error e => e.1 | .ok _ => 0
def qOf (o : Ans) : Int := match o with | .error e => (e.2 : Nat) | .ok _ => 0
theorem nsOf_len {p : ByteArray} {o : Ans} (h : AnsOk p o) : (nsOf o).length ≤ 24 := by
  cases o with
  | error e => simp [nsOf]
  | ok v => exact h.2.2.1
theorem ParsePost.tree {w w' : World} {o : Ans} {v : Ending} (h : ParsePost w o v w') : ∃ aa, v = .returned (treeV (.slice aa (nsOf o).length (nsOf o).length) (yOf o) (gOf o) (eOf o) (qOf o)) ∧ (∀ p, AnsOk p o → LVn w' (.slice aa (nsOf o).length (nsOf o).length) (nsOf o)) ∧ ∀ b, isBlk (.slice aa (nsOf o).length (nsOf o).length) b → w.heap.size ≤ b := by
  cases o with
  | error e => exact ⟨none, h, fun _ _ => .inl ⟨rfl, rfl⟩, fun b hb => absurd hb (noBlk b)⟩
  | ok v =>
    obtain ⟨ns, y, g⟩ := v
    obtain ⟨b, hb, hv, f, hbk, hf⟩ := h
    exact ⟨_, hv, fun _ hok => .inr ⟨b, f, rfl, hbk, hf, hok.2.1⟩, fun c hc => by obtain ⟨_, _, e⟩ := hc; injection e with e; injection e with e; injection e with e; omega⟩
theorem shaped_any {w : World} {o : Ans} {a : Value} {p : ByteArray} (hok : AnsOk p o) (h : LVn w a (nsOf o)) : Calls Try.prog 22 #[treeV a (yOf o) (gOf o) (eOf o) (qOf o), .string p] w fun v w' => v = .returned (.bool true) ∧ Fr (fun _ => False) w w' := by
  cases o with
  | error e =>
    rcases h with ⟨rfl, _⟩ | ⟨b, f, rfl, _, _, hp⟩
    · exact shaped_err hok.1 hok.2
    · simp [nsOf] at hp
  | ok v =>
    obtain ⟨ns, y, g⟩ := v
    obtain ⟨hwf, h1, h24, hy, hg⟩ := hok
    have hlt : ∀ k (h : k < ns.length), ns[k].a < k ∧ ns[k].b < k := fun k hk => by
      have := hwf k hk
      unfold okNd at this
      omega
    have := shaped_ok (p := p) h (by exact h1) (by exact h24) hg hlt
    rw [show ((nsOf (.ok (ns, y, g))).length - 1 : Nat) = y by simp only [nsOf]; omega] at this
    exact this
theorem Blk.tree (w : World) (v : Value) (y g e q : Int) : Blk (w.alloc (.cells #[v, .int .i64 y, .int .i64 g, .int .i64 e, .int .i64 q] 63)) w.heap.size 5 (fun o => (#[v, .int .i64 y, .int .i64 g, .int .i64 e, .int .i64 q] : Array Value).getD o undef) :=
  Blk.new w _ _ _ fun o ho => by
    rcases lt5 (show o < 5 by simpa using ho) with rfl | rfl | rfl | rfl | rfl <;> rfl
theorem getD5 (a b c d e : Value) : (#[a, b, c, d, e] : Array Value).getD 0 undef = a ∧ (#[a, b, c, d, e] : Array Value).getD 1 undef = b ∧ (#[a, b, c, d, e] : Array Value).getD 2 undef = c ∧ (#[a, b, c, d, e] : Array Value).getD 3 undef = d ∧ (#[a, b, c, d, e] : Array Value).getD 4 undef = e := ⟨rfl, rfl, rfl, rfl, rfl⟩
def nowD (D : Dk) (a b : Value) : Dk := ⟨D.pat, a, b, D.old, D.n⟩
theorem dkCell_now (D : Dk) (a b : Value) : ∀ o, o < 8 → upd (upd (dkCell D) 1 a) 2 b o = dkCell (nowD D a b) o := by
  intro o ho
  rcases (show o = 0 ∨ o = 1 ∨ o = 2 ∨ o = 3 ∨ o = 4 ∨ o = 5 ∨ o = 6 ∨ o = 7 by omega) with rfl | rfl | rfl | rfl | rfl | rfl | rfl | rfl <;> simp [dkCell, upd, nowD]
def SPost (w : World) (lo x m d : Nat) (D : Dk) (c : Nat) (e : Ending) (w' : World) : Prop :=
  e = .returned (.bool true) ∧ (∃ D' ns', D'.pat = D.pat ∧ LawInv w' lo x m d D' ns' (c + 1)) ∧ Fr (fun b => lo ≤ b) w w'
set_option maxRecDepth 100000 in
set_option maxHeartbeats 8000000 in
theorem sameParse_any {w : World} {lo x m d : Nat} {D : Dk} {ns : List Nd} {c : Nat} (h : LawInv w lo x m d D ns c) (hc : c ≤ 9999999999999) (p : ByteArray) :
    Calls Try.prog 17 #[.pointer (some ⟨x, 0, none⟩), .pointer (some ⟨m, 0, none⟩), .pointer (some ⟨d, 0, none⟩), .string p] w (SPost w lo x m d D c) := by
  have hxl := h.real.lt
  have hml := h.model.lt
  have hdl := h.desk.lt
  go_enter Try.func17, Try.ntmps17
  go_wp2_with fail
  refine (parseR_any (p := p) h.real).mono ?_
  rintro v1 w1 ⟨o1, hE, hP1, hA1, f1⟩
  have hw1 := f1.size
  have hm1 := h.model.frame f1 (fun e => h.xm e.symm)
  obtain ⟨aa, rfl, hL1, hB1⟩ := hP1.tree
  have HE : Hid _ := hE
  have HL1 : Hid _ := hL1
  clear hE hP1 hL1
  unfold treeV
  have hTA := Blk.tree w1 (.slice aa (nsOf o1).length (nsOf o1).length) (yOf o1) (gOf o1) (eOf o1) (qOf o1)
  have fA := (Fr.refl (fun _ => False) w1).alloc (.cells #[.slice aa (nsOf o1).length (nsOf o1).length, .int .i64 (yOf o1), .int .i64 (gOf o1), .int .i64 (eOf o1), .int .i64 (qOf o1)] 63)
  have hmA := hm1.frame fA (fun h => h)
  go_wp2_with fail
  refine (parseM_any hmA (by omega) p).mono ?_
  rintro v2 w2 ⟨o2, hM2, hP2, hm2, f2⟩
  have hoo := answers HE.out hM2
  have hok := hM2.ok
  subst hoo
  have hw2 := f2.size
  simp only [World.size_alloc] at hw2
  obtain ⟨ab, rfl, hL2', hB2⟩ := hP2.tree
  have hL2 := hL2' p hok
  have hL1 := HL1.out p hok
  have hn24 := nsOf_len hok
  have HSh : Hid (∀ {w a}, LVn w a (nsOf o1) → Calls Try.prog 22 #[treeV a (yOf o1) (gOf o1) (eOf o1) (qOf o1), .string p] w fun v w' => v = .returned (.bool true) ∧ Fr (fun _ => False) w w') := fun h => shaped_any hok h
  clear HE HL1 hM2 hP2 hL2' hok
  simp only [World.size_alloc] at hB2
  generalize nsOf o1 = ns1 at *
  generalize yOf o1 = y at *
  generalize gOf o1 = g at *
  generalize eOf o1 = e at *
  generalize qOf o1 = q at *
  have hTB := Blk.tree w2 (.slice ab ns1.length ns1.length) y g e q
  have fB := (Fr.refl (fun _ => False) w2).alloc (.cells #[.slice ab ns1.length ns1.length, .int .i64 y, .int .i64 g, .int .i64 e, .int .i64 q] 63)
  have F2 := ((f1.trans fA (fun _ _ h => h.elim)).mono (S' := fun b => b = x ∨ b = m) (fun _ _ h => .inl h)).trans f2 (fun _ _ h => .inr h)
  have FB := F2.trans fB (fun _ _ h => h.elim)
  have hTA2 := (hTA.frame f2 (by omega)).frame fB (fun h => h)
  have hL1A := ((hL1.frame fA (fun _ _ h => h)).frame f2 (fun b hb e => by have := hB1 b hb; omega)).frame fB (fun _ _ h => h)
  have hL2B := hL2.frame fB (fun _ _ h => h)
  have hA2 := ((hA1.frame fA (fun h => h)).frame f2 h.xm).frame fB (fun h => h)
  have hm3 := hm2.frame fB (fun h => h)
  unfold treeV
  clear hTA fA hmA
  have a0 := hTA2.cell (o := 0) (by omega)
  have a1 := hTA2.cell (o := 1) (by omega)
  have a2 := hTA2.cell (o := 2) (by omega)
  have a3 := hTA2.cell (o := 3) (by omega)
  have a4 := hTA2.cell (o := 4) (by omega)
  simp only [getD5] at a0 a1 a2 a3 a4
  have hlA := hTA2.lt
  go_wp2_with fail
  have hst := sameTree_any hL1A hL2B hn24 y g e q
  unfold treeV at hst
  refine hst.mono ?_
  rintro v w4 ⟨rfl, f4⟩
  have hTA4 := hTA2.frame f4 (fun h => h)
  have hTB4 := hTB.frame f4 (fun h => h)
  have hL1C := hL1A.frame f4 (fun _ _ h => h)
  have hL2C := hL2B.frame f4 (fun _ _ h => h)
  clear a0 a1 a2 a3 a4
  have a0 := hTA4.cell (o := 0) (by omega)
  have a1 := hTA4.cell (o := 1) (by omega)
  have a2 := hTA4.cell (o := 2) (by omega)
  have a3 := hTA4.cell (o := 3) (by omega)
  have a4 := hTA4.cell (o := 4) (by omega)
  simp only [getD5] at a0 a1 a2 a3 a4
  have hlA4 := hTA4.lt
  go_wp2_with fail
  have hsh := HSh.out hL1C
  unfold treeV at hsh
  refine hsh.mono ?_
  rintro v w5 ⟨rfl, f5⟩
  clear a0 a1 a2 a3 a4
  have f45 := f4.trans f5 (fun _ _ h => h)
  have F5 := FB.trans f45 (fun _ _ h => h.elim)
  have hd5 := h.desk.frame F5 (fun e => e.elim (fun e => h.xd e.symm) (fun e => h.md e.symm))
  have hlx5 := h.lx.frame F5 (fun b hb e => e.elim (h.bx b hb).1 (h.bx b hb).2.1)
  have hlm5 := h.lm.frame F5 (fun b hb e => e.elim (h.bm b hb).1 (h.bm b hb).2.1)
  have ho5 := h.old.frame F5 (fun k hk b hb e => e.elim (h.bo k hk b hb).1 (h.bo k hk b hb).2.1)
  go_wp2_with fail
  refine (again_any hd5 hlx5 hlm5 h.len ho5 (fun b hb => ⟨(h.bx b hb).2.2.1, (h.bx b hb).2.2.2.2⟩) (fun k hk e => (h.bo k hk d e).2.2 rfl) (by have := h.n; omega)).mono ?_
  rintro v w6 ⟨rfl, f6, D', hD', hd6, ho6⟩
  have hlxb : ∀ b, isBlk D.lx b → b < w.heap.size := fun b hb => h.lx.lt hb
  have hTA6 := (hTA4.frame f5 (fun h => h)).frame f6 (fun e => e.elim (fun e => by omega) (fun e => by have := hlxb _ e; omega))
  have hTB6 := (hTB4.frame f5 (fun h => h)).frame f6 (fun e => e.elim (fun e => by omega) (fun e => by have := hlxb _ e; omega))
  have a0 := hTA6.cell (o := 0) (by omega)
  have b0 := hTB6.cell (o := 0) (by omega)
  simp only [getD5] at a0 b0
  have hlA6 := hTA6.lt
  have hlB6 := hTB6.lt
  have z6 := hd6.frozen
  have d1 := hd6.cell (o := 1) (by omega)
  have d2 := hd6.cell (o := 2) (by omega)
  have hdl6 := hd6.lt
  have hdF := (((hd6.set 1 (.slice aa ns1.length ns1.length)).set 2 (.slice ab ns1.length ns1.length)).congr (dkCell_now D' _ _)).drew
  have FD := (((Fr.refl (fun b => b = d) w6).setC d 1 (.slice aa ns1.length ns1.length) (fun _ => rfl)).setC d 2 (.slice ab ns1.length ns1.length) (fun _ => rfl)).drew
  have f56 := f6.trans FD (S := fun b => b = d ∨ isBlk D.lx b) (fun _ _ e => .inl e)
  have fr6 : ∀ b, b < w5.heap.size → b ≠ d → ¬ isBlk D.lx b → ¬ (b = d ∨ isBlk D.lx b) := fun b _ h1 h2 e => e.elim h1 h2
  have hfin : LawInv (((w6.setCell ⟨d, 1, none⟩ (.slice aa ns1.length ns1.length)).setCell ⟨d, 2, none⟩ (.slice ab ns1.length ns1.length)).drew) lo x m d (nowD D' (.slice aa ns1.length ns1.length) (.slice ab ns1.length ns1.length)) ns1 (c + 1) := by
    have hold : ∀ k, k < 4 → ∀ b, isBlk (D'.old k) b → b < w.heap.size ∧ b ≠ x ∧ b ≠ m ∧ b ≠ d := fun k hk b hb => by
      have key : isBlk (D.old k) b ∨ isBlk D.lx b := by
        rcases hD' with rfl | rfl
        · by_cases he : k = D.n % 4
          · right; simpa [keepD, upd, he] using hb
          · left; simpa [keepD, upd, he] using hb
        · exact .inl hb
      rcases key with k1 | k1
      · obtain ⟨n, _, hv⟩ := h.old k hk
        exact ⟨hv.lt k1, h.bo k hk b k1⟩
      · exact ⟨hlxb b k1, (h.bx b k1).1, (h.bx b k1).2.1, (h.bx b k1).2.2.1⟩
    have hn : D'.n ≤ c + 1 ∧ D'.pat = D.pat := by
      have := h.n
      rcases hD' with rfl | rfl
      · exact ⟨by simp only [keepD]; omega, rfl⟩
      · exact ⟨by simp only [dropD]; omega, rfl⟩
    have hb1 : ∀ b, isBlk (.slice aa ns1.length ns1.length) b → w.heap.size ≤ b := hB1
    have hb2 : ∀ b, isBlk (.slice ab ns1.length ns1.length) b → w.heap.size ≤ b := fun b hb => by have := hB2 b hb; omega
    refine ⟨?_, ?_, hdF, by simp only [nowD]; rw [hn.2]; exact h.pat, ?_, ?_, hn24, ?_, h.xm, h.xd, h.md, h.lox, h.lom, h.lod, ?_, ?_, ?_, hn.1⟩
    · exact (hA2.frame f45 (fun h => h)).frame f56 (fun e => e.elim h.xd (fun e => (h.bx x e).1 rfl))
    · exact (hm3.frame f45 (fun h => h)).frame f56 (fun e => e.elim h.md (fun e => (h.bx m e).2.1 rfl))
    · exact (hL1C.frame f5 (fun _ _ h => h)).frame f56 (fun b hb e => e.elim (fun e => by have := hb1 b hb; omega) (fun e => by have := hb1 b hb; have := hlxb b e; omega))
    · exact (hL2C.frame f5 (fun _ _ h => h)).frame f56 (fun b hb e => e.elim (fun e => by have := hb2 b hb; omega) (fun e => by have := hb2 b hb; have := hlxb b e; omega))
    · exact Old4.frame (D := D') ho6 FD (fun k hk b hb e => (hold k hk b hb).2.2.2 e)
    · exact fun b hb => ⟨by have := hb1 b hb; omega, by have := hb1 b hb; omega, by have := hb1 b hb; omega, by have := hb1 b hb; have := h.lox; omega, fun k hk e => by have := hb1 b hb; have := (hold k hk b e).1; omega⟩
    · exact fun b hb => ⟨by have := hb2 b hb; omega, by have := hb2 b hb; omega, by have := hb2 b hb; omega⟩
    · exact fun k hk b hb => (hold k hk b hb).2
  have hpat : (nowD D' (.slice aa ns1.length ns1.length) (.slice ab ns1.length ns1.length)).pat = D.pat := by
    rcases hD' with rfl | rfl <;> rfl
  have FF := (F5.mono (S' := fun b => lo ≤ b) (fun b _ e => e.elim (fun e => by have := h.lox; omega) (fun e => by have := h.lom; omega))).trans f56 (fun b _ e => e.elim (fun e => by have := h.lod; omega) (fun e => (h.bx b e).2.2.2.1))
  have Hfin : Hid (SPost w lo x m d D c (.returned (.bool true)) (((w6.setCell ⟨d, 1, none⟩ (.slice aa ns1.length ns1.length)).setCell ⟨d, 2, none⟩ (.slice ab ns1.length ns1.length)).drew)) := ⟨rfl, ⟨_, _, hpat, hfin⟩, FF⟩
  clear hfin hdF FD f56 FF hpat
  go_wp2_with fail
  go_region
  all_goals go_wp2_with fail
  all_goals go_ret
  all_goals exact Hfin.out
end Go.Proofs.Qxb6500287a
