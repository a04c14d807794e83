/- The law: ground; both sides' calls as the law sees them. -/
import Derived.Test.Qxb6500276aGreatLC5
import Derived.Test.Qxb6500276aGreatMD12
import Derived.Test.Qxb6500276aGreatCB9
namespace Go.Proofs.Qxb6500276aGreat
open Go Go.RowKit

/-- The script lies in memory. -/
def ScrAt (w : World) (a : Option Addr) (n : Nat) : Prop := n = 0 ∨ ∃ b off, a = some ⟨b, off, none⟩ ∧ b < w.heap.size ∧ ∀ i, i < n → ∃ kind A B C S T,
  w.cell? ⟨b, off + i * 6, none⟩ = some (.int .i64 kind) ∧ w.cell? ⟨b, off + i * 6 + 1, none⟩ = some (.int .i64 A) ∧ w.cell? ⟨b, off + i * 6 + 2, none⟩ = some (.int .i64 B) ∧
  w.cell? ⟨b, off + i * 6 + 3, none⟩ = some (.int .i64 C) ∧ w.cell? ⟨b, off + i * 6 + 4, none⟩ = some (.string S) ∧ w.cell? ⟨b, off + i * 6 + 5, none⟩ = some (.string T)
/-- What an answer to src is, for the law. -/
def KD (src : ByteArray) (d : Dn) : Prop := ∃ rs : List FR, d.rs = rs.map fi ∧ KA src d.ns d.root d.ty d.rf rs d.main d.err d.pos
theorem KD.det {src : ByteArray} {d d' : Dn} (h : KD src d) (h' : KD src d') : d' = d := by
  obtain ⟨rs, e, k⟩ := h
  obtain ⟨rs', e', k'⟩ := h'
  obtain ⟨h1, h2, h3, h4, h5, h6, h7, h8⟩ := KA.det k k'
  obtain ⟨ns, root, ty, rf, rq, main, err, pos⟩ := d
  obtain ⟨ns', root', ty', rf', rq', main', err', pos'⟩ := d'
  simp only at h1 h2 h3 h4 h6 h7 h8 e e'
  subst h1 h2 h3 h4 h5 h6 h7 h8 e e'
  rfl
def CkL (w : World) (c p : Nat) (Op : Nat → Prop) (src : ByteArray) (e : Ending) (w' : World) : Prop := ∃ (Op' : Nat → Prop) (x : Cr), e = .returned (crV x) ∧ RIx w' p Op' ∧ (∀ b, Op' b → Op b ∨ w.heap.size ≤ b) ∧ CI w' c p ∧ ¬ Op' c ∧ Fr (fun b => b = c ∨ Op b) w w' ∧ AnsA w' x ∧ (∀ b, inA x b → w.heap.size ≤ b ∧ ¬ Op' b ∧ b ≠ c) ∧ KD src x.2
theorem checkL {w : World} {c p : Nat} {Op : Nat → Prop} (R : RIx w p Op) (C : CI w c p) (hc : ¬ Op c) (src : ByteArray) : Calls Tryz.prog 12 #[.pointer (some ⟨c, 0, none⟩), .string src] w (CkL w c p Op src) := by
  refine (checkC R C hc src).mono ?_
  rintro e w' ⟨Op', v, t, r, f, ns, root, ty, rf, rs, main, err, pos, rfl, h1, h2, h3, h4, h5, h6, h7, h8⟩
  obtain ⟨a, rfl, rfl, rfl, rfl, h9⟩ := h6.law root main err pos
  exact ⟨Op', _, rfl, h1, h2, h3, h4, h5, h9, h7, rs, rfl, h8⟩
def CkML (w : World) (src : ByteArray) (e : Ending) (w' : World) : Prop := ∃ x : Cr, e = .returned (crV x) ∧ Fr (fun _ => False) w w' ∧ AnsA w' x ∧ (∀ b, inA x b → w.heap.size ≤ b) ∧ KD src x.2
theorem checkML {w : World} {m q : Nat} (C : MCI w m q) (src : ByteArray) : Calls Tryz.prog 13 #[.pointer (some ⟨m, 0, none⟩), .string src] w (CkML w src) := by
  refine (checkM C src).mono ?_
  rintro e w' ⟨v, t, r, f, ns, root, ty, rf, rs, main, err, pos, rfl, h1, h6, h7, h8⟩
  obtain ⟨a, rfl, rfl, rfl, rfl, h9⟩ := h6.law root main err pos
  exact ⟨_, rfl, h1, h9, h7, rs, rfl, h8⟩
set_option maxRecDepth 100000 in
set_option maxHeartbeats 1000000 in
theorem groundC (w : World) : Calls Tryz.prog 7 #[] w fun e w' => ∃ (p : Nat) (Op : Nat → Prop), e = .returned (.agg #[.pointer (some ⟨p, 0, none⟩)]) ∧ RIx w' p Op ∧ (∀ b, Op b → w.heap.size ≤ b) ∧ Fr (fun _ => False) w w' := by
  go_enter Tryz.func7, Tryz.ntmps7
  go_wp2_with fail
  refine (newL _).mono ?_
  rintro e w1 ⟨rfl, L1, f1⟩
  have hs : (w.alloc (.cells #[.pointer none] 29)).heap.size = w.heap.size + 1 := by simp [World.size_alloc]
  obtain ⟨bb, hbb⟩ : ∃ bb, (w.alloc (.cells #[.pointer none] 29)).heap.size = bb := ⟨_, rfl⟩
  rw [hbb] at L1 hs ⊢
  obtain ⟨lx, hlx⟩ : ∃ lx, bb + 1 = lx := ⟨_, rfl⟩
  rw [hlx] at L1 ⊢
  have hb0 : Blk (w.alloc (.cells #[.pointer none] 29)) w.heap.size 1 (fun _ => .pointer none) := Blk.new w _ _ _ fun o ho => by
    have : o < 1 := ho
    obtain rfl : o = 0 := by omega
    rfl
  have F1 := ((Fr.refl (fun _ => False) w).alloc (.cells #[.pointer none] 29)).trans f1 (fun _ _ h => h)
  have hN := newR L1
  have hb1 := hb0.frame f1 (fun h => h)
  have s1 := F1.size
  have Hs : Hid (w.heap.size < bb ∧ w.heap.size < lx ∧ w.heap.size ≤ w1.heap.size) := ⟨by omega, by omega, s1⟩
  have HB : Hid _ := And.intro hb1 F1
  clear L1 hs F1 f1 hb0 hb1 hlx hbb s1
  go_wp2_with fail
  refine hN.mono ?_
  rintro e w2 ⟨p, rfl, R2, f2, hp⟩
  clear hN
  have hb2 := HB.out.1.frame f2 (fun h => h)
  have c0 := hb2.cell (o := 0) (by omega)
  have cz := hb2.frozen
  have cl := hb2.lt
  have HZ : Hid _ := And.intro hb2 (And.intro R2 f2)
  clear hb2 R2 f2
  go_wp2_with fail
  obtain ⟨hb2, R2, f2⟩ := HZ.out
  have Z := hb2.set 0 (.pointer (some ⟨p, 0, none⟩))
  have q0 := Z.cell (o := 0) (by omega)
  simp only [upd] at q0
  refine bodyPost_ret (v := .agg #[.pointer (some ⟨p, 0, none⟩)]) (by simp [results, Tryz.results7, go_sem, q0]) rfl ?_
  have K := (Fr.refl (fun c => c = w.heap.size) w2).setC w.heap.size 0 (.pointer (some ⟨p, 0, none⟩)) (fun _ => rfl)
  obtain ⟨z1, z2, z3⟩ := Hs.out
  exact ⟨p, _, rfl, R2.frame K (fun d hd e => by
    have hl := HB.out.1.lt
    rcases hd with h | h | h <;> omega), fun d hd => by rcases hd with h | h | h <;> omega, (HB.out.2.trans f2 (fun _ _ h => h)).setNew (Nat.le_refl _)⟩
theorem SlC.lastC {w : World} {v : Value} {l : List Cr} {x : Cr} (h : SlC w v (keepQ l x)) (hl : l.length ≤ 16) : ∃ b cap J, v = .slice (some ⟨b, 0, none⟩) (J + 1) cap ∧ J + 1 ≤ cap ∧ b < w.heap.size ∧ J < 16 ∧ ∀ o, o < 10 → w.cell? ⟨b, J * 10 + o, none⟩ = some (crC x o) := by
  have hk : (keepQ l x) = (if l.length < 16 then l else l.tail) ++ [x] := rfl
  obtain ⟨J, hJ⟩ : ∃ J, J = (if l.length < 16 then l else l.tail).length := ⟨_, rfl⟩
  have hlen : (keepQ l x).length = J + 1 := by rw [hk, List.length_append, ← hJ]; rfl
  obtain ⟨b, cap, e, h1, h2, h3⟩ := h.get (i := J) (by omega)
  rw [hlen] at e h1
  have := (keepQ_len l x hl).1
  refine ⟨b, cap, J, e, h1, h2, by omega, fun o ho => ?_⟩
  rw [h3 o ho]
  have hx : (keepQ l x)[J]'(by omega) = x := by
    have e2 : (keepQ l x)[J]? = some x := by rw [hk, hJ]; simp
    have e3 : (keepQ l x)[J]? = some ((keepQ l x)[J]'(by omega)) := List.getElem?_eq_getElem (by omega)
    rw [e2] at e3; injection e3 with e3; exact e3.symm
  rw [hx]
theorem law0 {w w1 w2 w3 : World} {p c m q : Nat} {Op : Nat → Prop} (R : RIx w1 p Op) (hO : ∀ b, Op b → w.heap.size ≤ b) (k1 : Fr (fun _ => False) w w1) (C : CI w2 c p) (hc : w1.heap.size ≤ c) (k2 : Fr (fun _ => False) w1 w2) (M : MCI w3 m q) (k3 : Fr (fun _ => False) w2 w3) (hm : w2.heap.size ≤ m) (hq : w2.heap.size ≤ q) :
    Law w.heap.size w3 p c m q Op (.slice none 0 0) (.slice none 0 0) [] [] := by
  have rl : ∀ b, Op b → b < w1.heap.size := by obtain ⟨_, _, _, _, H⟩ := R; exact H.lt
  have s1 := k1.size
  have s2 := k2.size
  have s3 := k3.size
  have cl := C.lt
  have ml := M.b.lt
  have ql := M.i.lt
  refine ⟨(R.frame k2 (fun _ _ h => h)).frame k3 (fun _ _ h => h), C.frame k3 (fun h => h), M, fun h => by have := rl c h; omega, .inl ⟨rfl, rfl⟩, .inl ⟨rfl, rfl⟩, by simp, rfl, fun x hx => (by cases hx), fun x hx => (by cases hx), ?_⟩
  classical
  refine ⟨fun b => if b = c ∨ Op b then 1 else if b = m ∨ b = q then 2 else 0, fun b hb => if_pos hb, fun b hb => ?_, fun b hb => absurd hb (nilB b), fun b hb => absurd hb (nilB b), fun x hx => (by rcases hx with hx | hx <;> cases hx), fun b hb => ?_⟩
  · try simp only
    rw [if_neg (fun h => by
      rcases h with h | h
      · omega
      · have := rl b h; omega), if_pos hb]
  · try simp only at hb
    split at hb
    · rename_i h
      rcases h with h | h
      · omega
      · have := rl b h; have := hO b h; omega
    · split at hb
      · omega
      · exact absurd rfl hb
end Go.Proofs.Qxb6500276aGreat
