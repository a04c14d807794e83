import Derived.Test.Qxb6500282aF17
namespace Go.Proofs.Qxb6500282a
open Go Go.RowKit

def AnyS (w w' : World) (x : Nat) (kv : Value) (K : List In) (s : DS) (p : List In) (str : ByteArray) (from_ : Int) : Prop :=
  (dErr p str from_ ≠ 0 ∧ Fr (fun _ => False) w w') ∨ (dErr p str from_ = 0 ∧ ∃ kv' s', DInv w' x kv' p s' ∧ AnyG p str from_.toNat s s' (str.size - from_.toNat) (sameP p K) ∧ (kv' = kv ∨ ∃ kb n c, kv' = .slice (some ⟨kb, 0, none⟩) n c ∧ w.heap.size ≤ kb) ∧ Fr (mOwn x) w w')
theorem AnyG.bounds {p : List In} {str : ByteArray} {from_ : Nat} {s s' : DS} {n : Nat} {b : Bool} (h : AnyG p str from_ s s' n b) (h1 : s.used ≤ s.built) (h2 : s.built ≤ s.worked) : s'.used ≤ s'.built ∧ s'.built ≤ s'.worked := by
  have a := h.b1
  have c := h.f0
  cases b with
  | true => have := h.led rfl; omega
  | false => have := h.led2 rfl; have := h.f2 rfl; omega
theorem any_all {w : World} {x : Nat} {kv : Value} {K p : List In} {s : DS} {pb pc : Nat} {fp : Nat → Value} (h : DInv w x kv K s) (hpb : Blk w pb (pc * 7) fp) (hpf : Holds7 fp p) (hpl : p.length ≤ pc) (hfar : ¬ mOwn x pb) (hlen : p.length ≤ 65) (str : ByteArray) (from_ : Int)
    (h1 : s.built < 999999999999980000) (h2 : s.flushes < 999999999999980000) (h3 : s.worked < 999999999999980000) :
    Calls Try.prog 33 #[.pointer (some ⟨x, 0, none⟩), .slice (some ⟨pb, 0, none⟩) p.length pc, .string str, .int .i64 from_] w fun e w' => e = .returned (.tuple #[.bool (dOk p str from_), .int .i64 (dErr p str from_)]) ∧ AnyS w w' x kv K s p str from_ := by
  have hp : PAt w pb p := hpf.at hpb (by omega)
  by_cases he : dErr p str from_ = 0
  · obtain ⟨h4, h5, n, rfl, h6⟩ := dErr_ok he
    have eans : ∀ ans : Bool, (ans = true ↔ AnsP p str n) → ans = dOk p str (n : Int) := fun ans ha => by
      have := ha.trans (ans_iff h5 h6)
      unfold dOk
      rw [decide_eq_true he, Bool.true_and, Int.toNat_natCast]
      cases ans <;> cases hr : (runS p str n).isSome <;> simp_all
    by_cases hs : p = K
    · subst hs
      refine (any_same h hp h5 str h4 n h6 h1 h2 h3).mono ?_
      rintro e w' ⟨ans, s', rfl, ha, hM, ag, _, f⟩
      have hb := ag.bounds h.bu h.wk
      refine ⟨by rw [eans ans ha, he], .inr ⟨he, kv, s', ⟨hM, h.kv.frame f (fun b n c e => ?_), ag.inv, hb.1, hb.2, fun e => by have := h5.pos; rw [e] at this; simp at this⟩, by rw [(sameP_iff p p).2 rfl, Int.toNat_natCast]; exact ag, .inl rfl, f⟩⟩
      rcases h.kv with ⟨e', _⟩ | ⟨kb, cap, hk⟩
      · rw [e'] at e; cases e
      · rw [hk.v] at e; cases e; exact hk.far
    · refine (any_new h hs hpb hpf hpl hfar h5 str h4 n h6 h1 h2 h3).mono ?_
      rintro e w' ⟨ans, s', kb, rfl, ha, hkb, hM, hk, ag, f⟩
      have hb := ag.bounds h.bu h.wk
      exact ⟨by rw [eans ans ha, he], .inr ⟨he, _, s', ⟨hM, .inr ⟨kb, _, hk⟩, ag.inv, hb.1, hb.2, fun e => by have := h5.pos; rw [e] at this; simp at this⟩, by rw [sameP_no hs, Int.toNat_natCast]; exact ag, .inr ⟨kb, _, _, rfl, hkb⟩, f⟩⟩
  · refine (any_bad p pb pc hp (by omega) str from_ he).mono ?_
    rintro e w' ⟨rfl, f⟩
    exact ⟨by rw [dOk, decide_eq_false he]; rfl, .inl ⟨he, f⟩⟩

/-- The law's own blocks, apart from one another: the machine x, the model m, the desk db. -/
structure LawW (w : World) (lo x m db : Nat) (kv : Value) (K : List In) (s : DS) (pv : Value) (p : List In) : Prop where
  dv : DInv w x kv K s
  mb : ∃ f, Blk w m 3 f
  desk : ∃ f, Blk w db (65 * 7) f
  code : CodeAt w pv p
  len : p.length ≤ 65
  lay : lo ≤ x ∧ x + 3 ≤ m ∧ m < db
  kvb : ∀ b n c, kv = .slice (some ⟨b, 0, none⟩) n c → db < b ∧ ∀ n' c', pv ≠ .slice (some ⟨b, 0, none⟩) n' c'
  pvb : ∀ b n c, pv = .slice (some ⟨b, 0, none⟩) n c → db < b
theorem CodeAt.lt {w : World} {v : Value} {p : List In} (h : CodeAt w v p) {b n c : Nat} (e : v = .slice (some ⟨b, 0, none⟩) n c) : b < w.heap.size := by
  rcases h with ⟨rfl, _⟩ | ⟨b', cap, f, rfl, hc, hb, hf⟩
  · cases e
  · cases e; exact hb.lt
theorem KV.lt {w : World} {x : Nat} {kv : Value} {K : List In} (h : KV w x kv K) {b n c : Nat} (e : kv = .slice (some ⟨b, 0, none⟩) n c) : b < w.heap.size := by
  rcases h with ⟨rfl, _⟩ | ⟨kb, cap, h⟩
  · cases e
  · rw [h.v] at e; cases e; exact h.at_.lt h.ok.pos
theorem DInv.far {S : Nat → Prop} {w w' : World} {x : Nat} {kv : Value} {K : List In} {s : DS} (h : DInv w x kv K s) (k : Fr S w w') (h1 : ∀ b, mOwn x b → ¬ S b) (h2 : ∀ b n c, kv = .slice (some ⟨b, 0, none⟩) n c → ¬ S b) : DInv w' x kv K s :=
  ⟨h.mach.frame k h1, h.kv.frame k h2, h.inv, h.bu, h.wk, h.no⟩
def SameS (w w' : World) (lo x m db : Nat) (kv : Value) (K : List In) (s : DS) (pv : Value) (p : List In) (str : ByteArray) (from_ : Int) : Prop :=
  Fr (fun b => mOwn x b ∨ b = m ∨ b = db) w w' ∧ ((dErr p str from_ ≠ 0 ∧ LawW w' lo x m db kv K s pv p) ∨ (dErr p str from_ = 0 ∧ ∃ kv' s', LawW w' lo x m db kv' p s' pv p ∧ AnyG p str from_.toNat s s' (str.size - from_.toNat) (sameP p K)))
/-- The law's state behind SameAny: 'mine' is the list that was handed to the machine. -/
theorem LawW.next {w w3 w4 w5 w7 : World} {lo x m db : Nat} {kv : Value} {K : List In} {s : DS} {pv : Value} {p : List In} {str : ByteArray} {from_ : Int} {mine : Nat} (h : LawW w lo x m db kv K s pv p)
    (hmine : mine = db ∨ w.heap.size ≤ mine) (hmlt : mine < w3.heap.size) (f3 : Fr (fun b => b = db) w w3) (ha : AnyS w3 w4 x kv K s p str from_) (f5 : Fr (fun b => b = m) w4 w5) (hm5 : ∃ f, Blk w5 m 3 f) (f7 : Fr (fun b => b = mine) w5 w7) (hdb : ∃ f, Blk w7 db (65 * 7) f) :
    SameS w w7 lo x m db kv K s pv p str from_ := by
  obtain ⟨l1, l2, l3⟩ := h.lay
  have s3 := f3.size
  have hdl : db < w.heap.size := by obtain ⟨f, hf⟩ := h.desk; exact hf.lt
  have f57 : Fr (fun b => b = m ∨ b = mine) w4 w7 := (f5.mono (S' := fun b => b = m ∨ b = mine) (fun _ _ h => .inl h)).trans f7 (fun _ _ h => .inr h)
  have hm7 : ∃ f, Blk w7 m 3 f := by
    obtain ⟨f, hf⟩ := hm5
    exact ⟨f, hf.frame f7 (show ¬ (m = mine) by have := hf.lt; omega)⟩
  have f34 : Fr (mOwn x) w3 w4 := by
    rcases ha with ⟨_, f⟩ | ⟨_, _, _, _, _, _, f⟩
    · exact f.mono (fun _ _ h => h.elim)
    · exact f
  have f04 : Fr (fun b => b = db ∨ mOwn x b) w w4 := (f3.mono (S' := fun b => b = db ∨ mOwn x b) (fun _ _ h => .inl h)).trans f34 (fun _ _ h => .inr h)
  have f04' : Fr (fun b => mOwn x b ∨ b = m ∨ b = db) w w4 := f04.mono (fun b _ e => e.elim (fun e => .inr (.inr e)) .inl)
  have f07 : Fr (fun b => mOwn x b ∨ b = m ∨ b = db) w w7 := by
    refine f04'.trans f57 (fun b hb e => ?_)
    rcases e with e | e
    · exact .inr (.inl e)
    · exact .inr (.inr (by omega))
  have hcode : CodeAt w7 pv p := (h.code.frame f04 (fun b n c e => by have := h.pvb b n c e; unfold mOwn; omega)).frame f57 (fun b n c e => by have := h.pvb b n c e; have := h.code.lt e; omega)
  refine ⟨f07, ?_⟩
  rcases ha with ⟨he, f⟩ | ⟨he, kv', s', hd, ag, hk, _⟩
  · refine .inl ⟨he, ⟨?_, hm7, hdb, hcode, h.len, h.lay, h.kvb, h.pvb⟩⟩
    have g4 : Fr (fun b => b = db) w w4 := f3.trans f (fun _ _ h => h.elim)
    exact (h.dv.far g4 (fun b hb => by unfold mOwn at hb; omega) (fun b n c e => by have := h.kvb b n c e; omega)).far f57 (fun b hb => by unfold mOwn at hb; omega) (fun b n c e => by have := h.kvb b n c e; have := h.dv.kv.lt e; omega)
  · have hkb : ∀ b n c, kv' = .slice (some ⟨b, 0, none⟩) n c → db < b ∧ b ≠ mine ∧ ∀ n' c', pv ≠ .slice (some ⟨b, 0, none⟩) n' c' := by
      intro b n c e
      rcases hk with rfl | ⟨kb, n1, c1, rfl, hkb⟩
      · have h1 := h.kvb b n c e
        have h2 := h.dv.kv.lt e
        exact ⟨h1.1, by omega, h1.2⟩
      · cases e
        refine ⟨by omega, by omega, fun n' c' e' => ?_⟩
        have := h.code.lt e'
        omega
    refine .inr ⟨he, kv', s', ⟨hd.far f57 (fun b hb => by unfold mOwn at hb; omega) (fun b n c e => by have := hkb b n c e; omega), hm7, hdb, hcode, h.len, h.lay, fun b n c e => ⟨(hkb b n c e).1, (hkb b n c e).2.2⟩, h.pvb⟩, ag⟩
end Go.Proofs.Qxb6500282a
