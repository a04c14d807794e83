import Derived.Test.Qxb6500283aGreatDfD12
import Derived.Test.Qxb6500283aGreatDfP1
namespace Go.Proofs.Qxb6500283aGreat
open Go Go.RowKit

def dOk (p : List In) (str : ByteArray) (from_ : Int) : Bool := decide (dErr p str from_ = 0) && (runS p str from_.toNat).isSome
theorem DInv.frame {w w' : World} {x : Nat} {kv : Value} {K : List In} {s : DS} (h : DInv w x kv K s) (k : Fr (fun _ => False) w w') : DInv w' x kv K s :=
  ⟨h.mach.frame k (fun _ _ h => h), h.kv.frame k (fun _ _ _ _ h => h), h.inv, h.bu, h.wk, h.no⟩


def ds0 : DS := ⟨[], 0, 0, 0, fun _ => 0, 0, fun _ => -1, fun _ => 0, 0, 0, 0⟩
theorem mask0 (o : Int) : IsMask [] 0 o := ⟨by omega, fun q => by simp [opAt]⟩
theorem cinv0 : CInvD [] ds0 := ⟨by simp [ds0], fun c hc => by simp [ds0] at hc, fun c _ _ => rfl, fun c d hc => by simp [ds0] at hc, fun o _ => by simp [ds0], fun c b _ _ _ => rfl, fun c b hc => by simp [ds0] at hc, mask0 0, mask0 5, mask0 6⟩
/-- The machine's cells before its two lists are laid in. -/
def ncell (a b : Value) (o : Nat) : Value := if o = 11 then a else if o = 12 then b else mcell 0 (.slice none 0 0) ds0 o
theorem zero_make (k : Nat) : (Value.int .i64 0).cells[k % (Value.int .i64 0).cells.size]! = (Value.int .i64 0 : Value) := by
  show (#[Value.int .i64 0] : Array Value)[k % 1]! = _
  rw [Nat.mod_one]; rfl
def fillV (i : Nat) : Nat → Value := fun o => .int .i64 (if o < i then -1 else 0)
theorem ncell11 (a b c : Value) : ∀ o, o < 16 → upd (ncell a b) 11 c o = ncell c b o := by
  intro o _
  simp only [upd, ncell]
  split <;> simp [*]
theorem ncell12 (a b c : Value) : ∀ o, o < 16 → upd (ncell a b) 12 c o = ncell a c o := by
  intro o _
  simp only [upd, ncell]
  by_cases e : o = 12
  · subst e; simp
  · simp [e]
theorem ncell_m (x : Nat) : ∀ o, o < 16 → ncell (.slice (some ⟨x + 1, 0, none⟩) 1536 1536) (.slice (some ⟨x + 2, 0, none⟩) 64 64) o = mcell x (.slice none 0 0) ds0 o := by
  intro o ho
  rcases lt16 ho with rfl | rfl | rfl | rfl | rfl | rfl | rfl | rfl | rfl | rfl | rfl | rfl | rfl | rfl | rfl | rfl <;> rfl
set_option maxRecDepth 100000 in
set_option maxHeartbeats 4000000 in
theorem new_any (w : World) : Calls Tryz.prog 21 #[] w fun e w' => e = .returned (.pointer (some ⟨w.heap.size, 0, none⟩)) ∧ DInv w' w.heap.size (.slice none 0 0) [] ds0 ∧ Fr (fun _ => False) w w' := by
  have hb0 : Blk (w.alloc (.cells #[.slice none 0 0, .int .u64 0, .int .u64 0, .int .u64 0, .int .u64 0, .int .u64 0, .int .u64 0, .int .u64 0, .int .u64 0, .int .u64 0, .int .i64 0, .slice none 0 0, .slice none 0 0, .int .i64 0, .int .i64 0, .int .i64 0] 120)) w.heap.size 16 (ncell (.slice none 0 0) (.slice none 0 0)) :=
    Blk.new w _ _ _ fun o ho => by
      rcases lt16 (show o < 16 by simpa using ho) with rfl | rfl | rfl | rfl | rfl | rfl | rfl | rfl | rfl | rfl | rfl | rfl | rfl | rfl | rfl | rfl <;> rfl
  have f0 := (Fr.refl (fun _ => False) w).alloc (.cells #[.slice none 0 0, .int .u64 0, .int .u64 0, .int .u64 0, .int .u64 0, .int .u64 0, .int .u64 0, .int .u64 0, .int .u64 0, .int .u64 0, .int .i64 0, .slice none 0 0, .slice none 0 0, .int .i64 0, .int .i64 0, .int .i64 0] 120)
  go_enter Tryz.func21, Tryz.ntmps21
  go_wp2_with (refine wpList_makeB (by rfl) 105 _ _ (by rfl) 3 1 8 (.int .i64 0) 1536 (by rfl) (by rfl) Tryz.underlying105 (by kernel_rfl) (by kernel_rfl) (by kernel_rfl) (by omega) (by omega) ?_; intro w2 f2 s2 b2; simp only [World.size_alloc] at s2 b2; have hb2 := hb0.frame f2 (by simp); have z2 := hb2.frozen; have d11 := hb2.cell (o := 11) (by omega))
  have hbn : Blk w2 (w.heap.size + 1) 1536 (fillV 0) := (by simpa using b2 : Blk w2 (w.heap.size + 1) 1536 _).congr fun o _ => by rw [zero_make]; simp [fillV]
  have hb3 := (hb2.set 11 (.slice (some ⟨w.heap.size + 1, 0, none⟩) 1536 1536)).congr (ncell11 _ _ _)
  have f3 : Fr (fun _ => False) w (w2.setCell ⟨w.heap.size, 11, none⟩ (.slice (some ⟨w.heap.size + 1, 0, none⟩) 1536 1536)) := (f0.trans f2 (fun _ _ h => h)).setNew (Nat.le_refl _)
  have s3 : (w2.setCell ⟨w.heap.size, 11, none⟩ (.slice (some ⟨w.heap.size + 1, 0, none⟩) 1536 1536)).heap.size = w.heap.size + 1 + 1 := by simpa using s2
  go_loopg [2] 1536 (fun g iv wr => ∃ i : Nat, iv = .int .i64 i ∧ i + g = 1536 ∧ Blk wr (w.heap.size + 1) 1536 (fillV i) ∧ Blk wr w.heap.size 16 (ncell (.slice (some ⟨w.heap.size + 1, 0, none⟩) 1536 1536) (.slice none 0 0)) ∧ wr.heap.size = w.heap.size + 1 + 1 ∧ Fr (fun _ => False) w wr)
  case atStart => exact ⟨0, rfl, by omega, hbn.setOther _ _ (by simp), hb3, s3, f3⟩
  case round =>
    obtain ⟨i, rfl, hg, hn, hm, hs, hfr⟩ := hrel
    have hg' : i + gk = 1536 := hg
    have e11 : wr.cell? ⟨w.heap.size, 11, none⟩ = some (.slice (some ⟨w.heap.size + 1, 0, none⟩) 1536 1536) := hm.cell (by omega)
    have e12 := hm.cell (o := 12) (by omega)
    have zn := hn.frozen
    have zm := hm.frozen
    clear hg z2 d11 b2 hb2 hb3 hbn f3 s3
    by_cases hlt : i < 1536
    · have n0 := hn.cell (o := i) hlt
      have key := (hn.set i (.int .i64 (-1))).congr (g := fillV (i + 1)) (fun o _ => by
        simp only [upd, fillV]
        by_cases e : o = i
        · subst e; simp
        · by_cases h2 : o < i
          · simp [e, h2, show o < i + 1 by omega]
          · simp [e, h2, show ¬ o < i + 1 by omega])
      have Hk : Hid _ := key
      clear key
      go_wp2_with fail
      go_roundg (gk - 1)
      case measure => omega
      case rel => exact ⟨i + 1, by simp, by omega, Hk.out, hm.setOther _ _ (by simp), by simpa using hs, hfr.setNew (by omega)⟩
    · have hie : i = 1536 := by omega
      subst hie
      go_wp2_with (refine wpList_makeB (by rfl) 105 _ _ (by rfl) 3 1 8 (.int .i64 0) 64 (by rfl) (by rfl) Tryz.underlying105 (by kernel_rfl) (by kernel_rfl) (by kernel_rfl) (by omega) (by omega) ?_; intro w4 f4 s4 b4; rw [hs] at s4 b4; have hm4 := hm.frame f4 (by simp); have z4 := hm4.frozen; have g12 := hm4.cell (o := 12) (by omega))
      go_ret
      have hn4 := hn.frame f4 (by simp)
      refine ⟨rfl, ⟨⟨?_, ?_, ?_⟩, .inl ⟨rfl, rfl⟩, cinv0, by simp [ds0], by simp [ds0], fun _ => rfl⟩, (hfr.trans f4 (fun _ _ h => h)).setNew (Nat.le_refl _)⟩
      · exact ((hm4.set 12 _).congr (ncell12 _ _ _)).congr (ncell_m _)
      · refine (hn4.setOther _ _ (by simp)).congr fun o ho => ?_
        simp [fillV, ints, ds0, ho]
      · refine ((by simpa using b4 : Blk w4 (w.heap.size + 1 + 1) 64 _).setOther _ _ (show w.heap.size + 1 + 1 ≠ w.heap.size by omega)).congr fun o ho => ?_
        rw [zero_make]; rfl
def AnyS (w w' : World) (x : Nat) (kv : Value) (K : List In) (s : DS) (p : List In) (str : ByteArray) (from_ : Int) : Prop :=
  (dErr p str from_ ≠ 0 ∧ Fr (fun _ => False) w w') ∨ (dErr p str from_ = 0 ∧ ∃ kv' s', DInv w' x kv' p s' ∧ AnyG p s s' (str.size - from_.toNat) (sameP p K) ∧ (kv' = kv ∨ ∃ kb n c, kv' = .slice (some ⟨kb, 0, none⟩) n c ∧ w.heap.size ≤ kb) ∧ Fr (mOwn x) w w')
theorem AnyG.bounds {p : List In} {s s' : DS} {n : Nat} {b : Bool} (h : AnyG p s s' n b) (h1 : s.used ≤ s.built) (h2 : s.built ≤ s.worked) : s'.used ≤ s'.built ∧ s'.built ≤ s'.worked := by
  have a := h.b1
  have c := h.f0
  cases b with
  | true => have := h.led rfl; omega
  | false => have := h.led2 rfl; have := h.f2 rfl; omega
theorem any_all {w : World} {x : Nat} {kv : Value} {K p : List In} {s : DS} {pb pc : Nat} {fp : Nat → Value} (h : DInv w x kv K s) (hpb : Blk w pb (pc * 7) fp) (hpf : Holds7 fp p) (hpl : p.length ≤ pc) (hfar : ¬ mOwn x pb) (hlen : p.length ≤ 65) (str : ByteArray) (from_ : Int)
    (h1 : s.built < 999999999999980000) (h2 : s.flushes < 999999999999980000) (h3 : s.worked < 999999999999980000) :
    Calls Tryz.prog 74 #[.pointer (some ⟨x, 0, none⟩), .slice (some ⟨pb, 0, none⟩) p.length pc, .string str, .int .i64 from_] w fun e w' => e = .returned (.tuple #[.bool (dOk p str from_), .int .i64 (dErr p str from_)]) ∧ AnyS w w' x kv K s p str from_ := by
  have hp : PAt w pb p := hpf.at hpb (by omega)
  by_cases he : dErr p str from_ = 0
  · obtain ⟨h4, h5, n, rfl, h6⟩ := dErr_ok he
    have eans : ∀ ans : Bool, (ans = true ↔ AnsP p str n) → ans = dOk p str (n : Int) := fun ans ha => by
      have := ha.trans (ans_iff h5 h6)
      unfold dOk
      rw [decide_eq_true he, Bool.true_and, Int.toNat_natCast]
      cases ans <;> cases hr : (runS p str n).isSome <;> simp_all
    by_cases hs : p = K
    · subst hs
      refine (any_same h hp h5 str h4 n h6 h1 h2 h3).mono ?_
      rintro e w' ⟨ans, s', rfl, ha, hM, ag, _, f⟩
      have hb := ag.bounds h.bu h.wk
      refine ⟨by rw [eans ans ha, he], .inr ⟨he, kv, s', ⟨hM, h.kv.frame f (fun b n c e => ?_), ag.inv, hb.1, hb.2, fun e => by have := h5.pos; rw [e] at this; simp at this⟩, by rw [(sameP_iff p p).2 rfl, Int.toNat_natCast]; exact ag, .inl rfl, f⟩⟩
      rcases h.kv with ⟨e', _⟩ | ⟨kb, cap, hk⟩
      · rw [e'] at e; cases e
      · rw [hk.v] at e; cases e; exact hk.far
    · refine (any_new h hs hpb hpf hpl hfar h5 str h4 n h6 h1 h2 h3).mono ?_
      rintro e w' ⟨ans, s', kb, rfl, ha, hkb, hM, hk, ag, f⟩
      have hb := ag.bounds h.bu h.wk
      exact ⟨by rw [eans ans ha, he], .inr ⟨he, _, s', ⟨hM, .inr ⟨kb, _, hk⟩, ag.inv, hb.1, hb.2, fun e => by have := h5.pos; rw [e] at this; simp at this⟩, by rw [sameP_no hs, Int.toNat_natCast]; exact ag, .inr ⟨kb, _, _, rfl, hkb⟩, f⟩⟩
  · refine (any_bad p pb pc hp (by omega) str from_ he).mono ?_
    rintro e w' ⟨rfl, f⟩
    exact ⟨by rw [dOk, decide_eq_false he]; rfl, .inl ⟨he, f⟩⟩

/-- The law's own blocks, apart from one another: the machine x, the model m, the desk db. -/
theorem KV.lt {w : World} {x : Nat} {kv : Value} {K : List In} (h : KV w x kv K) {b n c : Nat} (e : kv = .slice (some ⟨b, 0, none⟩) n c) : b < w.heap.size := by
  rcases h with ⟨rfl, _⟩ | ⟨kb, cap, h⟩
  · cases e
  · rw [h.v] at e; cases e; exact h.at_.lt h.ok.pos
theorem DInv.far {S : Nat → Prop} {w w' : World} {x : Nat} {kv : Value} {K : List In} {s : DS} (h : DInv w x kv K s) (k : Fr S w w') (h1 : ∀ b, mOwn x b → ¬ S b) (h2 : ∀ b n c, kv = .slice (some ⟨b, 0, none⟩) n c → ¬ S b) : DInv w' x kv K s :=
  ⟨h.mach.frame k h1, h.kv.frame k h2, h.inv, h.bu, h.wk, h.no⟩
end Go.Proofs.Qxb6500283aGreat
