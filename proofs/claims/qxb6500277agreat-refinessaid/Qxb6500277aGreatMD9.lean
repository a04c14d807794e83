/- The model checker: bad, New; the start and the end of its Check in memory. -/
import Derived.Test.Qxb6500277aGreatMD8
import Derived.Test.Qxb6500277aGreatCN3
import Derived.Test.Qxb6500277aGreatCB8c
import Derived.Test.Qxb6500277aGreatQM16
import Derived.Test.Qxb6500277aGreatText2
namespace Go.Proofs.Qxb6500277aGreat
open Go Go.RowKit

set_option maxRecDepth 100000 in
set_option maxHeartbeats 1000000 in
theorem badM (w : World) (e p : Int) : Calls Tryz.prog 50 #[.int .i64 e, .int .i64 p] w fun v w' => v = .returned (refV e p) ∧ Fr (fun _ => False) w w' := by
  go_enter Tryz.func50, Tryz.ntmps50
  go_wp2_with fail
  exact bodyPost_ret (v := refV e p) (by simp [results, Tryz.results50, go_sem, refV, chkV]) rfl ⟨rfl, (Fr.refl _ _).alloc _⟩
/-- The model checker between calls. -/
structure MCI (w : World) (m q : Nat) : Prop where
  b : Blk w m 1 (fun _ => .pointer (some ⟨q, 0, none⟩))
  i : MIx w q
theorem MIx.lt {w : World} {m : Nat} (h : MIx w m) : m < w.heap.size := by
  obtain ⟨q, h⟩ := h
  exact h.lt
theorem MCI.frame {w w' : World} {m q : Nat} {S : Nat → Prop} (h : MCI w m q) (k : Fr S w w') (h1 : ¬ S m) (h2 : ¬ S q) : MCI w' m q := ⟨h.b.frame k h1, h.i.frame k h2⟩
set_option maxRecDepth 100000 in
set_option maxHeartbeats 1000000 in
theorem newMC (w : World) : Calls Tryz.prog 25 #[] w fun e w' => ∃ m q, e = .returned (.pointer (some ⟨m, 0, none⟩)) ∧ MCI w' m q ∧ Fr (fun _ => False) w w' ∧ w.heap.size ≤ m ∧ w.heap.size ≤ q := by
  go_enter Tryz.func25, Tryz.ntmps25
  go_wp2_with fail
  refine (newMP w).mono ?_
  rintro e w1 ⟨q, rfl, M1, f1, hq⟩
  have hB : Blk (w1.alloc (.cells #[.pointer (some ⟨q, 0, none⟩)] 124)) w1.heap.size 1 (fun _ => .pointer (some ⟨q, 0, none⟩)) := Blk.new w1 _ _ _ fun o ho => by
    have : o < 1 := ho
    obtain rfl : o = 0 := by omega
    rfl
  have hM := M1.frame ((Fr.refl (fun _ => False) w1).alloc (.cells #[.pointer (some ⟨q, 0, none⟩)] 124)) (fun h => h)
  have hF := f1.alloc (.cells #[.pointer (some ⟨q, 0, none⟩)] 124)
  have hs := f1.size
  have HR : Hid _ := And.intro hB (And.intro hM (And.intro hF (And.intro hs hq)))
  clear hB hM hF hs hq
  go_wp2_with fail
  go_ret
  obtain ⟨hB, hM, hF, hs, hq⟩ := HR.out
  exact ⟨_, q, rfl, ⟨hB, hM⟩, hF, hs, hq⟩
/-- What Check of the model answers. -/
def CkM (w : World) (src : ByteArray) (e : Ending) (w' : World) : Prop := ∃ (v t r f : Value) (ns : List Nd) (root : Int) (ty rf : List Int) (rs : List FR) (main err pos : Int),
  e = .returned (chkV v root 0 0 t r f main err pos) ∧ Fr (fun _ => False) w w' ∧ AnsM w' v t r f ns ty rf rs ∧ (∀ b, inB4 v t r f b → w.heap.size ≤ b) ∧ KA src ns root ty rf rs main err pos
theorem CkM.bad {w w' : World} {src : ByteArray} {e p : Int} (k : Fr (fun _ => False) w w') (h : KA src [] (-1) [] [] [] (-1) e p) : CkM w src (.returned (refV e p)) w' :=
  ⟨_, _, _, _, [], -1, [], [], [], -1, e, p, rfl, k, .nil _, fun d hd => by rcases hd with h | h | h | h <;> exact absurd h (nilB d), h⟩
theorem KA.refuse {src : ByteArray} {e p : Int} (hA : Ans src (flFs 0 (treeOf src)) (hdF 0 (treeOf src)) 0 0) (hK : ckAll (treeOf src) src.size = .bad e p) : KA src [] (-1) [] [] [] (-1) e p := .inr ⟨hA, by rw [hK]; exact ⟨rfl, rfl, rfl, rfl, rfl, rfl, rfl, rfl⟩⟩
theorem HdsAt.pch {X : Cx} {ns : List Nd} : ∀ (gs : List Fnc) (b i : Nat), HdsAt X b i gs → Lie ns b (flFs b gs) → ∀ m, m < gs.length → ∃ (J : Nat) (nd : Nd) (bP : Nat) (ps : List Prm), (fAt X.fs (i + m)).node = (J : Nat) ∧ ns[J]? = some nd ∧ nd.a = hdP bP ps ∧ Lie ns bP (flP bP ps) ∧ pAt X.pt (i + m) = ps.map (·.t)
  | [], b, i, h, L, m, hm => by cases hm
  | f :: r, b, i, h, L, 0, hm => by
    simp only [HdsAt] at h
    obtain ⟨La, _⟩ := L.fns
    obtain ⟨Lp, _, _, hn⟩ := La.fn
    exact ⟨b + szF f - 1, _, b, f.ps, by rw [Nat.add_zero, h.2.1, rtF_nat], hn, rfl, Lp, h.2.2.2.2.1⟩
  | f :: r, b, i, h, L, m + 1, hm => by
    simp only [HdsAt] at h
    obtain ⟨_, Lb⟩ := L.fns
    have := HdsAt.pch r _ _ h.2.2.2.2.2 Lb m (by simpa using hm)
    rw [show i + (m + 1) = i + 1 + m by omega]
    exact this
theorem pch_of {X : Cx} {ns : List Nd} {gs : List Fnc} (h : HdsAt X 0 0 gs) (L : Lie ns 0 (flFs 0 gs)) : PCh X ns := fun f hf => by
  have hp := h.pre
  have := h.pch gs 0 0 L f (by omega)
  rwa [Nat.zero_add] at this
theorem fresh0_idem (s : Ck) : fresh0 (fresh0 s) = fresh0 s := rfl
theorem ckF_fresh (X : Cx) (i b : Nat) (f : Fnc) (s : Ck) : ckF X i b f (fresh0 s) = ckF X i b f s := rfl
/-- The run is born. -/
theorem MXc.born {w : World} {B m nb tb rb : Nat} {ns : List Nd} {a : Option Addr} (hb : Blk w m 11 (mCell ⟨m, nb, tb, rb, ns, .slice a ns.length ns.length⟩ 0 (blank (List.replicate ns.length 0) (List.replicate ns.length 0)) 0 0 (.slice none 0 0) (.slice none 0 0)))
    (hn : ns ≠ [] → a = some ⟨nb, 0, none⟩ ∧ ∃ g, Blk w nb (ns.length * 8) g ∧ NdP g ns) (ht : Blk w tb ns.length (fun _ => .int .i64 0)) (hr : Blk w rb ns.length (fun _ => .int .i64 0)) (hd : m ≠ tb ∧ m ≠ rb ∧ tb ≠ rb) (hlo : B ≤ m ∧ B ≤ tb ∧ B ≤ rb) (hnb : nb < B) (hl : ns.length ≤ 200) :
    MXc w B ⟨m, nb, tb, rb, ns, .slice a ns.length ns.length⟩ ⟨[], []⟩ 0 (blank (List.replicate ns.length 0) (List.replicate ns.length 0)) 0 0 (.slice none 0 0) (.slice none 0 0) := by
  refine ⟨hb, fun h => ⟨by show Value.slice a _ _ = _; rw [(hn h).1], (hn h).2⟩, .inl ⟨rfl, rfl⟩, .inl ⟨rfl, rfl⟩, ht.congr fun o ho => ?_, hr.congr fun o ho => ?_, by simp [blank], by simp [blank], ⟨by show m ≠ nb; omega, hd.1, hd.2.1, by show nb ≠ tb; omega, by show nb ≠ rb; omega, hd.2.2⟩, fun b h => absurd h (nilB b), fun b h => absurd h (nilB b), hlo, by simp [blank], by simp [blank], XOk.nil ns, rfl, hl, Nat.zero_le _, fun i => by simp [blank, lAt], fun i => by simp [blank, vAt]⟩
  · simp [blank, iL, List.getD_eq_getElem?_getD, show o < ns.length from ho]
  · simp [blank, iL, List.getD_eq_getElem?_getD, show o < ns.length from ho]
theorem made0c {w : World} {b n : Nat} (h : Blk w b (n * 1) (fun k => (Value.int .i64 0).cells[k % (Value.int .i64 0).cells.size]!)) : Blk w b n (fun _ => .int .i64 0) := by
  rw [Nat.mul_one] at h
  exact h.congr fun o ho => by show (Value.int .i64 0).cells[o % 1]! = _; rw [Nat.mod_one]; rfl
theorem m11_blk (w : World) (A : Ma) : Blk (w.alloc (.cells #[A.tv, .slice (some ⟨A.tb, 0, none⟩) A.ns.length A.ns.length, .slice (some ⟨A.rb, 0, none⟩) A.ns.length A.ns.length, .slice none 0 0, .slice none 0 0, .int .i64 0, .int .i64 0, .int .i64 0, .int .i64 0, .int .i64 0, .int .i64 0] 141)) w.heap.size 11 (mCell A 0 (blank (List.replicate A.ns.length 0) (List.replicate A.ns.length 0)) 0 0 (.slice none 0 0) (.slice none 0 0)) := Blk.new w _ _ _ fun o ho => by
  have ho : o < 11 := ho
  rcases lt11c ho with rfl | rfl | rfl | rfl | rfl | rfl | rfl | rfl | rfl | rfl | rfl <;> rfl
/-- The run is born in either order of its two lists. -/
def Born (w2 : World) (nb : Nat) (ns : List Nd) (a : Option Addr) (m tb rb : Nat) (wx : World) : Prop := MXc wx w2.heap.size ⟨m, nb, tb, rb, ns, .slice a ns.length ns.length⟩ ⟨[], []⟩ 0 (blank (List.replicate ns.length 0) (List.replicate ns.length 0)) 0 0 (.slice none 0 0) (.slice none 0 0) ∧ Fr (fun _ => False) w2 wx
theorem Born.mk {w2 wb : World} {nb tb rb : Nat} {ns : List Nd} {a : Option Addr} (k : Fr (fun _ => False) w2 wb) (hn : ns ≠ [] → a = some ⟨nb, 0, none⟩ ∧ ∃ g, Blk w2 nb (ns.length * 8) g ∧ NdP g ns) (ht : Blk wb tb ns.length (fun _ => .int .i64 0)) (hr : Blk wb rb ns.length (fun _ => .int .i64 0)) (htr : tb ≠ rb) (h1 : w2.heap.size ≤ tb) (h2 : w2.heap.size ≤ rb) (hnb : nb < w2.heap.size) (hl : ns.length ≤ 200) :
    Born w2 nb ns a wb.heap.size tb rb (wb.alloc (.cells #[.slice a ns.length ns.length, .slice (some ⟨tb, 0, none⟩) ns.length ns.length, .slice (some ⟨rb, 0, none⟩) ns.length ns.length, .slice none 0 0, .slice none 0 0, .int .i64 0, .int .i64 0, .int .i64 0, .int .i64 0, .int .i64 0, .int .i64 0] 141)) := by
  have kk := (Fr.refl (fun _ => False) wb).alloc (.cells #[.slice a ns.length ns.length, .slice (some ⟨tb, 0, none⟩) ns.length ns.length, .slice (some ⟨rb, 0, none⟩) ns.length ns.length, .slice none 0 0, .slice none 0 0, .int .i64 0, .int .i64 0, .int .i64 0, .int .i64 0, .int .i64 0, .int .i64 0] 141)
  have l1 := ht.lt
  have l2 := hr.lt
  have l3 := k.size
  refine ⟨MXc.born (m11_blk wb ⟨wb.heap.size, nb, tb, rb, ns, .slice a ns.length ns.length⟩) (fun h => ⟨(hn h).1, by obtain ⟨g, g1, g2⟩ := (hn h).2; exact ⟨g, (g1.frame k (fun h => h)).frame kk (fun h => h), g2⟩⟩) (ht.frame kk (fun h => h)) (hr.frame kk (fun h => h)) ⟨by omega, by omega, htr⟩ ⟨l3, h1, h2⟩ hnb hl, k.trans kk (fun _ _ h => h)⟩
/-- The fill of the two lists. -/
theorem fill_eq {n : Nat} {l : List Int} (hl : l.length = n) (h : ∀ o, o < n → l.getD o 0 = -1) : l = List.replicate n (-1) := by
  apply List.ext_getElem
  · simp [hl]
  · intro i h1 h2
    have := h i (by omega)
    simpa [List.getD_eq_getElem?_getD, h1] using this
theorem MXc.ups {w w' w2 : World} {A : Ma} {X : Cx} {cur : Nat} {s : Ck} {er po : Int} {fv vv : Value} (H : MXc w w2.heap.size A X cur s er po fv vv) (k : Fr (MSc A fv vv) w w') : Fr (fun b => w2.heap.size ≤ b) w w' := k.mono (fun b _ h => H.up b h)
theorem FrP.lay {g0 gF : Nat → Value} {rs : List FR} {n : Nat} (hn : rs.length = n) (h : ∀ o, o < n * 7 → gF o = bufF2 rs o) : FrP (Go.Proofs.Qxb6500277aGreat.lay g0 0 (rowOf gF 0 (n * 7))) rs := fun j hj o ho => by
  rw [lay_in _ _ _ _ (Nat.zero_le _) (by rw [rowOf_length]; omega)]
  have h9 : (rowOf gF 0 (n * 7))[j * 7 + o - 0]'(by rw [rowOf_length]; omega) = gF (j * 7 + o) := by
    have h8 := rowOf_get gF 0 (n * 7) (j * 7 + o) (by omega)
    rw [List.getElem?_eq_getElem (by rw [rowOf_length]; omega)] at h8
    injection h8 with h8
    rw [Nat.zero_add] at h8
    exact h8
  rw [h9, h _ (by omega)]
  unfold bufF2
  rw [show (j * 7 + o) / 7 = j by omega, show (j * 7 + o) % 7 = o by omega]
  simp [List.getD_eq_getElem?_getD, hj]
/-- An answer of the model that has gone through. -/
theorem CkM.good {w w2 w9 w10 : World} {A : Ma} {X : Cx} {cur : Nat} {s : Ck} {fv vv : Value} {fb : Nat} {g : Nat → Value} {m : Nat} {root : Int} {src : ByteArray} (C : MXc w9 w2.heap.size A X cur s 0 0 fv vv) (_h2 : w.heap.size ≤ w2.heap.size) (hnb : w.heap.size ≤ A.nb) (hnb2 : A.nb < w2.heap.size) (hA : Ans src (flFs 0 (treeOf src)) (hdF 0 (treeOf src)) 0 0) (hK : ckAll (treeOf src) src.size = .ok X (fresh0 s) m) (hns : A.ns = flFs 0 (treeOf src)) (hroot : root = hdF 0 (treeOf src)) (hn0 : A.ns ≠ [])
    (BF : Blk w9 fb (X.fs.length * 7) g) (hg : FrP g (X.fs.zip s.lim)) (hf0 : 0 < X.fs.length) (hfb : w2.heap.size ≤ fb) (hft : fb ≠ A.tb ∧ fb ≠ A.rb) (hnw : A.nb ≠ w.heap.size) (K : Fr (fun d => d = w.heap.size) w9 w10) (hw : w.heap.size < w2.heap.size) (F : Fr (fun _ => False) w w10) :
    CkM w src (.returned (chkV (.slice (some ⟨A.nb, 0, none⟩) A.ns.length A.ns.length) root 0 0 (.slice (some ⟨A.tb, 0, none⟩) A.ns.length A.ns.length) (.slice (some ⟨A.rb, 0, none⟩) A.ns.length A.ns.length) (.slice (some ⟨fb, 0, none⟩) X.fs.length X.fs.length) m 0 0)) w10 := by
  have hlen : 0 < A.ns.length := List.length_pos_iff.2 hn0
  obtain ⟨_, gn, n1, n2⟩ := C.nds hn0
  obtain ⟨l1, l2, l3⟩ := C.lo
  obtain ⟨d1, d2, d3, d4, d5, d6⟩ := C.dis
  have one : ∀ {b b' l l'}, isBlk (.slice (some ⟨b', 0, none⟩) l l') b → b = b' := fun hb => by obtain ⟨_, _, e⟩ := hb; injection e with e _ _; injection e with e; injection e with e; exact e.symm
  have zl : (X.fs.zip s.lim).length = X.fs.length := by simp [C.lim]
  have hx8 := C.xok.le
  have hle := C.le
  refine ⟨_, _, _, _, A.ns, root, s.ty, s.rf, X.fs.zip s.lim, m, 0, 0, rfl, F, ⟨.inr ⟨A.nb, gn, rfl, n1.frame K hnw, n2, hlen⟩, .inr ⟨A.tb, by rw [C.tyl], by rw [C.tyl]; exact C.tyb.frame K (by omega), by rw [C.tyl]; exact hlen⟩, .inr ⟨A.rb, by rw [C.rfl'], by rw [C.rfl']; exact C.rfb.frame K (by omega), by rw [C.rfl']; exact hlen⟩, .inr ⟨fb, g, by rw [zl], by rw [zl]; exact BF.frame K (by omega), hg, by rw [zl]; exact hf0⟩, ⟨?_, ?_, ?_, ?_, ?_, ?_⟩, hle, by rw [C.tyl]; exact hle, by rw [C.rfl']; exact hle, by rw [zl]; omega⟩, ?_, .inr ⟨hA, by rw [hK]; exact ⟨hns, hroot, rfl, rfl, rfl, rfl, rfl, rfl⟩⟩⟩
  · intro b h1 h2; have := one h1; have := one h2; omega
  · intro b h1 h2; have := one h1; have := one h2; omega
  · intro b h1 h2; have := one h1; have := one h2; omega
  · intro b h1 h2; have := one h1; have := one h2; omega
  · intro b h1 h2; have := one h1; have := one h2; omega
  · intro b h1 h2; have := one h1; have := one h2; omega
  · intro b hb
    rcases hb with h | h | h | h <;> have := one h <;> omega
end Go.Proofs.Qxb6500277aGreat
