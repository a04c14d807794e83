/- The law's state in the loud walk. -/
import Derived.Test.Qxb6500282aF22
import Derived.Test.Qxb6500282aG2
namespace Go.Proofs.Qxb6500282a
open Go Go.RowKit

theorem KV.len {w : World} {x : Nat} {kv : Value} {K : List In} (h : KV w x kv K) : K.length < 1000000 := by
  rcases h with ⟨_, rfl⟩ | ⟨kb, cap, h⟩
  · simp
  · have := h.ok.max; omega
theorem DInv.neSb {w : World} {x sb : Nat} {kv : Value} {K : List In} {s : DS} {a b c d : Nat} (h : DInv w x kv K s) (hb : Blk w sb 4 (gF a b c d)) : ∀ e n q, kv = .slice (some ⟨e, 0, none⟩) n q → e ≠ sb := by
  intro e n q he hs
  subst hs
  rcases h.kv with ⟨h1, _⟩ | ⟨kb, cap, hk⟩
  · rw [h1] at he; cases he
  · rw [hk.v] at he
    cases he
    have h1 := hk.at_ 0 hk.ok.pos 3 (by omega)
    have h2 := hb.cell (o := 3) (by omega)
    rw [show 0 * 7 + 3 = 3 by rfl, h2] at h1
    simp [gF, inCell] at h1
structure LInv (w0 w : World) (x m gb db sb k : Nat) (pv : Value) (p : List In) (str : ByteArray) (kv : Value) (K : List In) (s : DS) (g : Gh) (lv : Value) (tw : Bool) (A0 : Int) : Prop where
  q : QInv w0 w x m gb db k pv p str kv K s g
  sb_ : Blk w sb 4 (gF s.used s.built s.flushes s.worked)
  lay : db < sb
  last : CodeAt w lv K
  lvb : ∀ b n c, lv = .slice (some ⟨b, 0, none⟩) n c → sb < b ∧ ∀ n' c', pv ≠ .slice (some ⟨b, 0, none⟩) n' c'
  pvb : ∀ b n c, pv = .slice (some ⟨b, 0, none⟩) n c → sb < b
  twin : tw = true → dErr p str A0 = 0 ∧ p = K ∧ Cov0 p str A0.toNat s
section
variable {w0 w w' : World} {x m gb db sb k : Nat} {pv : Value} {p : List In} {str : ByteArray} {kv : Value} {K : List In} {s : DS} {g : Gh} {lv : Value} {tw : Bool} {A0 : Int}
theorem LInv.frame (h : LInv w0 w x m gb db sb k pv p str kv K s g lv tw A0) (f : Fr (fun _ => False) w w') : LInv w0 w' x m gb db sb k pv p str kv K s g lv tw A0 :=
  ⟨h.q.frame f, h.sb_.frame f (by simp), h.lay, h.last.frame f (fun _ _ _ _ h => h), h.lvb, h.pvb, h.twin⟩
theorem LInv.keep {pv' : Value} {p' : List In} {str' : ByteArray} (h : LInv w0 w x m gb db sb k pv p str kv K s g lv tw A0) (hl : LawW w' w0.heap.size x m db kv K s pv' p') (hs : str'.size ≤ 257) (f : Fr (fun b => ∃ n c, pv = .slice (some ⟨b, 0, none⟩) n c) w w')
    (hb : ∀ b n c, pv' = .slice (some ⟨b, 0, none⟩) n c → w.heap.size ≤ b ∨ ∃ n' c', pv = .slice (some ⟨b, 0, none⟩) n' c') : LInv w0 w' x m gb db sb (k + 1) pv' p' str' kv K s g lv false A0 := by
  have hsl := h.sb_.lt
  have hlay := h.lay
  refine ⟨h.q.keep hl hs _ f (fun b ⟨n, c, e⟩ => by have := h.pvb b n c e; omega), h.sb_.frame f (fun ⟨n, c, e⟩ => by have := h.pvb _ n c e; omega), h.lay, h.last.frame f (fun b n c e ⟨n', c', e'⟩ => (h.lvb b n c e).2 n' c' e'), fun b n c e => ⟨(h.lvb b n c e).1, fun n' c' e' => ?_⟩, fun b n c e => ?_, fun e => by cases e⟩
  · rcases hb b n' c' e' with h1 | ⟨n2, c2, h1⟩
    · have := h.last.lt e; omega
    · exact (h.lvb b n c e).2 n2 c2 h1
  · rcases hb b n c e with h1 | ⟨n2, c2, h1⟩
    · omega
    · exact h.pvb b n2 c2 h1
theorem LInv.off {S : Nat → Prop} {k' : Nat} {g' : Gh} (h : LInv w0 w x m gb db sb k pv p str kv K s g lv tw A0) (hq : QInv w0 w' x m gb db k' pv p str kv K s g') (f : Fr S w w') (hS : ∀ b, S b → b ≤ db) : LInv w0 w' x m gb db sb k' pv p str kv K s g' lv tw A0 := by
  have hlay := h.lay
  exact ⟨hq, h.sb_.frame f (fun e => by have := hS _ e; omega), h.lay, h.last.frame f (fun b n c e e' => by have := (h.lvb b n c e).1; have := hS _ e'; omega), h.lvb, h.pvb, h.twin⟩
theorem QInv.stamp (h : QInv w0 w x m gb db k pv p str kv K s g) {a b c d : Nat} (hb : Blk w sb 4 (gF a b c d)) (hl : db < sb) (hp : ∀ b n c, pv = .slice (some ⟨b, 0, none⟩) n c → sb < b) (f : Fr (fun b => b = sb) w w') : QInv w0 w' x m gb db k pv p str kv K s g := by
  obtain ⟨l1, l2, l3⟩ := h.law.lay
  obtain ⟨a1, a2⟩ := h.lay
  obtain ⟨fm, hfm⟩ := h.law.mb
  obtain ⟨fd, hfd⟩ := h.law.desk
  have hne := h.law.dv.neSb hb
  exact ⟨⟨h.law.dv.far f (fun b hb => by unfold mOwn at hb; omega) (fun b n c e => hne b n c e), ⟨fm, hfm.frame f (by omega)⟩, ⟨fd, hfd.frame f (by omega)⟩, h.law.code.frame f (fun b n c e => by have := hp b n c e; omega), h.law.len, h.law.lay, h.law.kvb, h.law.pvb⟩, h.sz, h.gb_.frame f (by omega), h.gok, h.b, h.f, h.wk, h.rm, h.ms, h.fr.trans f (fun b hb e => by omega), h.lay⟩
end
theorem gF_all (f : Nat → Value) (a b c d : Nat) : ∀ o, o < 4 → upd (upd (upd (upd f 0 (.int .i64 (a : Nat))) 1 (.int .i64 (b : Nat))) 2 (.int .i64 (c : Nat))) 3 (.int .i64 (d : Nat)) o = gF a b c d o := by
  intro o ho
  rcases (show o = 0 ∨ o = 1 ∨ o = 2 ∨ o = 3 by omega) with rfl | rfl | rfl | rfl <;> simp [upd, gF]
theorem Blk.gset {w : World} {b' : Nat} {f : Nat → Value} (h : Blk w b' 4 f) (a b c d : Nat) : Blk ((((w.setCell ⟨b', 0, none⟩ (.int .i64 a)).setCell ⟨b', 1, none⟩ (.int .i64 b)).setCell ⟨b', 2, none⟩ (.int .i64 c)).setCell ⟨b', 3, none⟩ (.int .i64 d)) b' 4 (gF a b c d) :=
  ((((h.set 0 _).set 1 _).set 2 _).set 3 _).congr (gF_all f a b c d)
theorem Fr.gset {S : Nat → Prop} {v w : World} (h : Fr S v w) {b' : Nat} (hS : b' < v.heap.size → S b') (a b c d : Nat) : Fr S v ((((w.setCell ⟨b', 0, none⟩ (.int .i64 a)).setCell ⟨b', 1, none⟩ (.int .i64 b)).setCell ⟨b', 2, none⟩ (.int .i64 c)).setCell ⟨b', 3, none⟩ (.int .i64 d)) :=
  (((h.setC b' 0 _ hS).setC b' 1 _ hS).setC b' 2 _ hS).setC b' 3 _ hS
/-- Held's hypotheses out of the machine's. -/
theorem AnyG.held {p K : List In} {str : ByteArray} {n : Nat} {s s' : DS} {tw : Bool} (ag : AnyG p str n s s' (str.size - n) (sameP p K)) (hi : CInv K s) (hsz : str.size ≤ 256) (hb : s.built ≤ s.worked) (hub : s.used ≤ s.built) (htw : tw = true → sameP p K = true ∧ Cov0 p str n s) :
    ∃ d db tl M, HeldH s.used s.built s.flushes s.worked s'.used s'.built s'.flushes s'.worked (str.size - n + 1) (kindsN str n str.size) d db tl M tw (!sameP p K) := by
  obtain ⟨d, t1, t2⟩ := ag.tl
  have e1 := ag.w1; have e2 := ag.b0; have e3 := ag.b2; have e4 := ag.f0; have e5 := ag.f1; have e6 := ag.w0; have e7 := ag.us; have e8 := ag.b1
  have hu := ag.inv.used
  have hu0 := hi.used
  have hbd := ag.bounds hub hb
  have hk : kindsN str n str.size ≤ 256 := Nat.le_trans (List.length_filter_le _ _) (by simp)
  refine ⟨d, s'.built - s.built, s'.worked - s.worked, (d + 1) * 6 * kindsN str n str.size, hu0, hu, hbd.1, e7, t1, by omega, by omega, by omega, by omega, by omega, by omega, hk, fun e => ?_, fun e => ?_, by omega, by omega, rfl, ?_, fun e hd => ?_⟩
  · have := ag.led (by simpa using e); omega
  · have e9 : sameP p K = false := by simpa using e
    have := ag.led2 e9; have := ag.f2 e9; omega
  · rw [Nat.mul_assoc]; omega
  · obtain ⟨h3, h4⟩ := htw e
    have := ag.tw h3 h4
    omega
section
variable {w0 w w' : World} {x m gb db sb k : Nat} {pv : Value} {p : List In} {str : ByteArray} {kv : Value} {K : List In} {s : DS} {g : Gh} {lv : Value} {tw : Bool} {A0 : Int}
theorem LInv.obs {g' : Gh} {k' : Nat} (h : LInv w0 w x m gb db sb k pv p str kv K s g lv tw A0) (hq : QInv w0 w' x m gb db k' pv p str kv K s g') (f : Fr (fun b => b = gb) w w') : LInv w0 w' x m gb db sb k' pv p str kv K s g' lv tw A0 :=
  h.off hq f (fun b e => by have := h.q.lay; omega)
theorem LInv.err {w8 wD w12 : World} {A : Int} (h : LInv w0 w x m gb db sb k pv p str kv K s g lv tw A0) (f8 : Fr (fun b => mOwn x b ∨ b = m ∨ b = db) w w8) (hl : LawW w8 w0.heap.size x m db kv K s pv p) (fD : Fr (fun _ => False) w8 wD) (f12 : Fr (fun b => b = sb) wD w12) (hb : Blk w12 sb 4 (gF s.used s.built s.flushes s.worked)) :
    LInv w0 w12 x m gb db sb (k + 1) pv p str kv K s g lv false A := by
  obtain ⟨l1, l2, l3⟩ := h.q.law.lay
  obtain ⟨a1, a2⟩ := h.q.lay
  have hlay := h.lay
  have hsbD := (h.sb_.frame f8 (by unfold mOwn; omega)).frame fD (by simp)
  have hlast : CodeAt w12 lv K := ((h.last.frame f8 (fun b n c e => by have := (h.lvb b n c e).1; unfold mOwn; omega)).frame fD (fun _ _ _ _ h => h)).frame f12 (fun b n c e e' => by have := (h.lvb b n c e).1; omega)
  exact ⟨((h.q.go1 f8 hl).frame fD).stamp hsbD h.lay h.pvb f12, hb, h.lay, hlast, h.lvb, h.pvb, fun e => by cases e⟩
theorem LInv.ok {w12 w13 : World} {kv' : Value} {s' : DS} {g' : Gh} {tw' : Bool} {A : Int} {k' : Nat} (h : LInv w0 w x m gb db sb k pv p str kv K s g lv tw A0) (hQ : QInv w0 w12 x m gb db k' pv p str kv' p s' g') (hb : Blk w12 sb 4 (gF s'.used s'.built s'.flushes s'.worked))
    (f13 : Fr (fun _ => False) w12 w13) (hc : ∃ f, Blk w13 w12.heap.size (p.length * 7) f ∧ Holds7 f p) (ht : tw' = true → dErr p str A = 0 ∧ Cov0 p str A.toNat s') :
    LInv w0 w13 x m gb db sb k' pv p str kv' p s' g' (.slice (some ⟨w12.heap.size, 0, none⟩) p.length p.length) tw' A := by
  obtain ⟨f, hc, hf⟩ := hc
  have hbl := hb.lt
  refine ⟨hQ.frame f13, hb.frame f13 (by simp), h.lay, .inr ⟨_, _, f, rfl, Nat.le_refl _, hc, hf⟩, fun b n c e => ?_, h.pvb, fun e => ⟨(ht e).1, rfl, (ht e).2⟩⟩
  cases e
  refine ⟨hbl, fun n' c' e => ?_⟩
  have := hQ.law.code.lt e
  omega
end
end Go.Proofs.Qxb6500282a
