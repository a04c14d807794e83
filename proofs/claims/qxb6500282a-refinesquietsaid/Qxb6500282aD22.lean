import Derived.Test.Qxb6500282aD21
namespace Go.Proofs.Qxb6500282a
open Go Go.RowKit

/-- The script lies in memory. -/
def ScrAt (w : World) (a : Option Addr) (n : Nat) : Prop := n = 0 ∨ ∃ b off, a = some ⟨b, off, none⟩ ∧ b < w.heap.size ∧ ∀ i, i < n → ∃ kind A B C S T,
  w.cell? ⟨b, off + i * 6, none⟩ = some (.int .i64 kind) ∧ w.cell? ⟨b, off + i * 6 + 1, none⟩ = some (.int .i64 A) ∧ w.cell? ⟨b, off + i * 6 + 2, none⟩ = some (.int .i64 B) ∧
  w.cell? ⟨b, off + i * 6 + 3, none⟩ = some (.int .i64 C) ∧ w.cell? ⟨b, off + i * 6 + 4, none⟩ = some (.string S) ∧ w.cell? ⟨b, off + i * 6 + 5, none⟩ = some (.string T)
theorem gok0 : GOk gh0 ds0 := ⟨Nat.le_refl _, by simp [ds0], Nat.le_refl _, by simp [ds0], Nat.le_refl _⟩
theorem Blk.gh (w : World) : Blk (w.alloc (.cells #[.int .i64 0, .int .i64 0, .int .i64 0, .int .i64 0, .int .i64 0] 33)) w.heap.size 5 (gcell gh0) :=
  Blk.new w _ _ _ fun o ho => by
    rcases (show o = 0 ∨ o = 1 ∨ o = 2 ∨ o = 3 ∨ o = 4 by simp at ho; omega) with rfl | rfl | rfl | rfl | rfl <;> rfl
theorem PAt.one (w : World) (i : In) : PAt (w.alloc (.cells #[.int .i64 i.op, .int .i64 i.x, .int .i64 i.y, .int .u64 i.s0, .int .u64 i.s1, .int .u64 i.s2, .int .u64 i.s3] 47)) w.heap.size [i] := by
  have hb := Blk.new w #[.int .i64 i.op, .int .i64 i.x, .int .i64 i.y, .int .u64 i.s0, .int .u64 i.s1, .int .u64 i.s2, .int .u64 i.s3] 47 (inCell i) (fun o ho => by
    simp at ho
    rcases (show o = 0 ∨ o = 1 ∨ o = 2 ∨ o = 3 ∨ o = 4 ∨ o = 5 ∨ o = 6 by omega) with rfl | rfl | rfl | rfl | rfl | rfl | rfl <;> rfl)
  intro k hk j hj
  obtain rfl : k = 0 := by simp at hk; omega
  have := hb.cell (o := j) hj
  simpa using this
theorem q0 {w w1 w2 w4 : World} (hd : DInv w1 w.heap.size (.slice none 0 0) [] ds0) (f1 : Fr (fun _ => False) w w1) (hm : ∃ f, Blk w2 w1.heap.size 3 f) (f2 : Fr (fun _ => False) w1 w2) (f4 : Fr (fun _ => False) (w2.alloc (.cells #[.int .i64 0, .int .i64 0, .int .i64 0, .int .i64 0, .int .i64 0] 33)) w4) (hdb : ∃ f, Blk w4 (w2.heap.size + 1) (65 * 7) f) :
    QInv w w4 w.heap.size w1.heap.size w2.heap.size (w2.heap.size + 1) 0 (.slice none 0 0) [] ⟨#[]⟩ (.slice none 0 0) [] ds0 gh0 := by
  have hx := hd.mach.lt
  obtain ⟨fm, hfm⟩ := hm
  have hml := hfm.lt
  have f24 : Fr (fun _ => False) w2 w4 := ((Fr.refl _ _).alloc _).trans f4 (fun _ _ h => h)
  have f14 := f2.trans f24 (fun _ _ h => h)
  exact ⟨⟨hd.frame f14, ⟨fm, hfm.frame f24 (by simp)⟩, hdb, .inl ⟨rfl, rfl⟩, by simp, ⟨Nat.le_refl _, by omega, by omega⟩, fun b n c e => (by cases e), fun b n c e => (by cases e)⟩, by show (0 : Nat) ≤ 257; omega, (Blk.gh w2).frame f4 (by simp), gok0, by simp [ds0], by simp [ds0], by simp [ds0], by simp [gh0], by simp [gh0], f1.trans f14 (fun _ _ h => h), ⟨by omega, by omega⟩⟩

theorem gcell_all (g g' : Gh) : ∀ o, o < 5 → upd (upd (upd (upd (upd (gcell g) 0 (.int .i64 g'.seen)) 1 (.int .i64 g'.room)) 2 (.int .i64 g'.fl)) 3 (.int .i64 g'.toil)) 4 (.int .i64 g'.most) o = gcell g' o := by
  intro o ho
  rcases (show o = 0 ∨ o = 1 ∨ o = 2 ∨ o = 3 ∨ o = 4 by omega) with rfl | rfl | rfl | rfl | rfl <;> simp [upd, gcell]
theorem QInv.setGh {w0 w w' : World} {x m gb db k : Nat} {pv : Value} {p : List In} {str : ByteArray} {kv : Value} {K : List In} {s : DS} {g g' : Gh} (h : QInv w0 w x m gb db k pv p str kv K s g) (f : Fr (fun b => b = gb) w w') (hb : Blk w' gb 5 (gcell g')) (hg : GOk g' s) (h1 : g'.room ≤ g.room) (h2 : g'.most ≤ g.most) : QInv w0 w' x m gb db k pv p str kv K s g' := by
  obtain ⟨l1, l2, l3⟩ := h.law.lay
  obtain ⟨a1, a2⟩ := h.lay
  obtain ⟨fm, hfm⟩ := h.law.mb
  obtain ⟨fd, hfd⟩ := h.law.desk
  refine ⟨⟨h.law.dv.far f (fun b hb => by unfold mOwn at hb; omega) (fun b n c e => by have := h.law.kvb b n c e; omega), ⟨fm, hfm.frame f (by omega)⟩, ⟨fd, hfd.frame f (by omega)⟩, h.law.code.frame f (fun b n c e => by have := h.law.pvb b n c e; omega), h.law.len, h.law.lay, h.law.kvb, h.law.pvb⟩, h.sz, hb, hg, h.b, h.f, h.wk, by have := h.rm; omega, by have := h.ms; omega, h.fr.trans f (fun b hb e => by omega), h.lay⟩
theorem QInv.more {w0 w : World} {x m gb db k : Nat} {pv : Value} {p : List In} {str : ByteArray} {kv : Value} {K : List In} {s : DS} {g : Gh} (h : QInv w0 w x m gb db k pv p str kv K s g) : QInv w0 w x m gb db (k + 1) pv p str kv K s g :=
  ⟨h.law, h.sz, h.gb_, h.gok, by have := h.b; omega, by have := h.f; omega, by have := h.wk; omega, by have := h.rm; omega, by have := h.ms; omega, h.fr, h.lay⟩
theorem QInv.frame {w0 w w' : World} {x m gb db k : Nat} {pv : Value} {p : List In} {str : ByteArray} {kv : Value} {K : List In} {s : DS} {g : Gh} (h : QInv w0 w x m gb db k pv p str kv K s g) (f : Fr (fun _ => False) w w') : QInv w0 w' x m gb db k pv p str kv K s g :=
  ⟨h.law.frame f, h.sz, h.gb_.frame f (by simp), h.gok, h.b, h.f, h.wk, h.rm, h.ms, h.fr.trans f (fun _ _ h => h), h.lay⟩
theorem QInv.observe {w0 w w1 w6 : World} {x m gb db k : Nat} {pv : Value} {p : List In} {str : ByteArray} {kv : Value} {K : List In} {s : DS} {g g' : Gh} (h : QInv w0 w x m gb db k pv p str kv K s g) (f1 : Fr (fun _ => False) w w1) (f6 : Fr (fun _ => False) w1 w6) (hg : GOk g' s) (h1 : g'.room ≤ g.room) (h2 : g'.most ≤ g.most) :
    QInv w0 (((((w6.setCell ⟨gb, 0, none⟩ (.int .i64 g'.seen)).setCell ⟨gb, 1, none⟩ (.int .i64 g'.room)).setCell ⟨gb, 2, none⟩ (.int .i64 g'.fl)).setCell ⟨gb, 3, none⟩ (.int .i64 g'.toil)).setCell ⟨gb, 4, none⟩ (.int .i64 g'.most)) x m gb db (k + 1) pv p str kv K s g' := by
  have hq := (h.frame f1).frame f6
  refine (hq.setGh ?_ ((((((hq.gb_.set 0 _).set 1 _).set 2 _).set 3 _).set 4 _).congr (gcell_all g g')) hg h1 h2).more
  iterate 5 refine Fr.setC ?_ _ _ _ (fun _ => rfl)
  exact Fr.refl _ _

theorem LawW.mark {w w' : World} {lo x m db : Nat} {kv : Value} {K : List In} {s : DS} {pv : Value} {p : List In} (h : LawW w lo x m db kv K s pv p) (f : Fr (fun b => b = m) w w') (hm : ∃ f, Blk w' m 3 f ∧ f 0 = .int .i64 0) : LawW w' lo x m db kv K s pv p := by
  obtain ⟨l1, l2, l3⟩ := h.lay
  obtain ⟨fd, hfd⟩ := h.desk
  obtain ⟨fm, hfm, _⟩ := hm
  exact ⟨h.dv.far f (fun b hb => by unfold mOwn at hb; omega) (fun b n c e => by have := h.kvb b n c e; omega), ⟨fm, hfm⟩, ⟨fd, hfd.frame f (by omega)⟩, h.code.frame f (fun b n c e => by have := h.pvb b n c e; omega), h.len, h.lay, h.kvb, h.pvb⟩
def opcell (kind A B C : Int) (S T : ByteArray) (o : Nat) : Value :=
  match o with
  | 0 => .int .i64 kind
  | 1 => .int .i64 A
  | 2 => .int .i64 B
  | 3 => .int .i64 C
  | 4 => .string S
  | _ => .string T
theorem Blk.op (w : World) (kind A B C : Int) (S T : ByteArray) : Blk (w.alloc (.cells #[.int .i64 kind, .int .i64 A, .int .i64 B, .int .i64 C, .string S, .string T] 42)) w.heap.size 6 (opcell kind A B C S T) :=
  Blk.new w _ _ _ fun o ho => by
    rcases (show o = 0 ∨ o = 1 ∨ o = 2 ∨ o = 3 ∨ o = 4 ∨ o = 5 by simp at ho; omega) with rfl | rfl | rfl | rfl | rfl | rfl <;> rfl
theorem QInv.go1 {w0 w w' : World} {x m gb db k : Nat} {pv : Value} {p : List In} {str : ByteArray} {kv : Value} {K : List In} {s : DS} {g : Gh} (h : QInv w0 w x m gb db k pv p str kv K s g) (f : Fr (fun b => mOwn x b ∨ b = m ∨ b = db) w w') (hl : LawW w' w0.heap.size x m db kv K s pv p) : QInv w0 w' x m gb db (k + 1) pv p str kv K s g := by
  obtain ⟨l1, l2, l3⟩ := h.law.lay
  obtain ⟨a1, a2⟩ := h.lay
  exact ⟨hl, h.sz, h.gb_.frame f (by unfold mOwn; omega), h.gok, by have := h.b; omega, by have := h.f; omega, by have := h.wk; omega, by have := h.rm; omega, by have := h.ms; omega, h.fr.trans f (fun b hb e => by unfold mOwn at e; omega), h.lay⟩
theorem gcell_two (g : Gh) (a b : Nat) : ∀ o, o < 5 → upd (upd (gcell g) 1 (.int .i64 (a : Int))) 4 (.int .i64 (b : Int)) o = gcell ⟨g.seen, a, g.fl, g.toil, b⟩ o := by
  intro o ho
  rcases (show o = 0 ∨ o = 1 ∨ o = 2 ∨ o = 3 ∨ o = 4 by omega) with rfl | rfl | rfl | rfl | rfl <;> simp [upd, gcell]
theorem QInv.go0 {w0 w w2 w3 : World} {x m gb db k : Nat} {pv : Value} {p : List In} {str : ByteArray} {kv kv' : Value} {K : List In} {s s' : DS} {g : Gh} {n : Nat} {b : Bool} (h : QInv w0 w x m gb db k pv p str kv K s g) (f : Fr (fun b => mOwn x b ∨ b = m ∨ b = db) w w2) (hl : LawW w2 w0.heap.size x m db kv' p s' pv p) (ag : AnyG p s s' n b) (hn : n ≤ 256) (f3 : Fr (fun _ => False) w2 w3) :
    QInv w0 ((w3.setCell ⟨gb, 1, none⟩ (.int .i64 ((g.room + (n + 1) : Nat) : Int))).setCell ⟨gb, 4, none⟩ (.int .i64 ((g.most + (n + 1) + 1 : Nat) : Int))) x m gb db (k + 1) pv p str kv' p s' ⟨g.seen, g.room + (n + 1), g.fl, g.toil, g.most + (n + 1) + 1⟩  := by
  obtain ⟨l1, l2, l3⟩ := h.law.lay
  obtain ⟨a1, a2⟩ := h.lay
  obtain ⟨g1, g2, g3, g4, g5⟩ := h.gok
  have e1 := ag.w1; have e2 := ag.b0; have e3 := ag.b2; have e4 := ag.f0; have e5 := ag.f1; have e6 := ag.w0
  have hb3 := (h.gb_.frame f (by unfold mOwn; omega)).frame f3 (by simp)
  have fs : Fr (fun b => b = gb) w3 ((w3.setCell ⟨gb, 1, none⟩ (.int .i64 ((g.room + (n + 1) : Nat) : Int))).setCell ⟨gb, 4, none⟩ (.int .i64 ((g.most + (n + 1) + 1 : Nat) : Int))) := ((Fr.refl (fun b => b = gb) w3).setC gb 1 _ (fun _ => rfl)).setC gb 4 _ (fun _ => rfl)
  have hl3 := hl.frame f3
  obtain ⟨fm, hfm⟩ := hl3.mb
  obtain ⟨fd, hfd⟩ := hl3.desk
  refine ⟨⟨hl3.dv.far fs (fun b hb => by unfold mOwn at hb; omega) (fun b n c e => by have := hl.kvb b n c e; omega), ⟨fm, hfm.frame fs (by omega)⟩, ⟨fd, hfd.frame fs (by omega)⟩, hl3.code.frame fs (fun b n c e => by have := hl.pvb b n c e; omega), hl3.len, hl3.lay, hl3.kvb, hl3.pvb⟩, h.sz, ((hb3.set 1 _).set 4 _).congr (gcell_two g _ _), ⟨by simp only; omega, by simp only; omega, by simp only; omega, by simp only; omega, by simp only; omega⟩, by have := h.b; omega, by have := h.f; omega, by have := h.wk; omega, by have := h.rm; simp only; omega, by have := h.ms; simp only; omega, ?_, h.lay⟩
  exact ((h.fr.trans f (fun b hb e => by unfold mOwn at e; omega)).trans f3 (fun _ _ h => h)).trans fs (fun b hb e => by omega)

set_option maxRecDepth 100000 in
set_option maxHeartbeats 16000000 in
theorem walk_quiet {w : World} {a : Option Addr} {n cap : Nat} (hs : ScrAt w a n) :
    Calls Try.prog 7 #[.slice a n cap, .bool true] w fun e w' => (∃ k, e = .returned (.tuple #[.int .i64 (-1), .int .i64 k])) ∧ Fr (fun _ => False) w w' := by
  go_enter Try.func7, Try.ntmps7
  go_wp2_with fail
  refine (new_any _).mono ?_
  rintro e w1 ⟨rfl, hd1, f1⟩
  go_wp2_with fail
  refine (mnew_any _).mono ?_
  rintro e w2 ⟨rfl, hm2, f2⟩
  go_wp2_with (refine wpList_makeB (by rfl) 31 _ _ (by rfl) 47 7 56 (inV ⟨0, 0, 0, 0, 0, 0, 0⟩) 65 (by rfl) (by rfl) Try.underlying31 (by kernel_rfl) (by kernel_rfl) (by kernel_rfl) (by omega) (by omega) ?_; intro w4 f4 z4 b4; simp only [World.size_alloc] at z4 b4)
  refine (ground_any _).mono ?_
  rintro e w5 ⟨rfl, f5⟩
  have hq5 := q0 hd1 f1 hm2 f2 (f4.trans f5 (fun _ _ h => h)) ⟨_, b4.frame f5 (by simp)⟩
  have hq6 := hq5.keep (hq5.law.frame ((Fr.refl (fun _ => False) w5).alloc (.cells #[.int .i64 0, .int .i64 0, .int .i64 0, .int .i64 0] 38))) (str' := ⟨#[]⟩) (by show (0 : Nat) ≤ 257; omega) (fun _ => False) ((Fr.refl (fun _ => False) w5).alloc (.cells #[.int .i64 0, .int .i64 0, .int .i64 0, .int .i64 0] 38)) (fun _ h => h.elim)
  go_wp2_with fail
  go_loopg [8, 9, 17] n (fun g pvv sv kvv wr => ∃ (k : Nat) (p : List In) (str : ByteArray) (kv : Value) (K : List In) (s : DS) (gh : Gh), sv = .string str ∧ kvv = .int .i64 k ∧ k + g = n ∧ k ≤ 4398046511104 ∧ QInv w wr w.heap.size w1.heap.size w2.heap.size (w2.heap.size + 1) (k + 1) pvv p str kv K s gh)
  case atStart => exact ⟨0, [], _, _, _, _, _, rfl, rfl, by omega, by omega, hq6⟩
  case round =>
    clear hq5 hq6 hd1 hm2 b4 z4 f4 f5
    obtain ⟨k, p, str, kv, K, s, gh, rfl, rfl, hkg, hk42, hQ⟩ := hrel
    obtain ⟨pa, pcap, epv⟩ : ∃ a c, u8 = .slice a p.length c := by
      obtain ⟨a, c, e, _⟩ := hQ.law.code.sl
      exact ⟨a, c, e⟩
    subst epv
    have hkg' : k + gk = n := hkg
    clear hkg
    have Hk42 : Hid _ := hk42
    clear hk42
    have hkb : (k : Int) < 140737488355328 := by have := Hk42.out; omega
    have hfr := hQ.fr
    by_cases hlt : k < n
    · by_cases hlt2 : (k : Int) < 4398046511104
      · rcases hs with h0 | ⟨b, off, rfl, hb, hcells⟩
        · exact absurd hlt (by omega)
        obtain ⟨kind, A, B, C, S, T, c0, c1, c2, c3, c4, c5⟩ := hcells k hlt
        rw [← hfr.cell (p := ⟨b, off + k * 6, none⟩) hb (by simp)] at c0
        rw [← hfr.cell (p := ⟨b, off + k * 6 + 1, none⟩) hb (by simp)] at c1
        rw [← hfr.cell (p := ⟨b, off + k * 6 + 2, none⟩) hb (by simp)] at c2
        rw [← hfr.cell (p := ⟨b, off + k * 6 + 3, none⟩) hb (by simp)] at c3
        rw [← hfr.cell (p := ⟨b, off + k * 6 + 4, none⟩) hb (by simp)] at c4
        rw [← hfr.cell (p := ⟨b, off + k * 6 + 5, none⟩) hb (by simp)] at c5
        clear hcells
        have fO := (Fr.refl (fun _ => False) wr).alloc (.cells #[.int .i64 kind, .int .i64 A, .int .i64 B, .int .i64 C, .string S, .string T] 42)
        have hL1 := hQ.law.frame fO
        have hplen := hQ.law.len
        by_cases k1 : kind = 1
        · subst k1
          by_cases hp64 : p.length ≤ 64
          · have t64 : decide (p.length ≤ 64) = true := decide_eq_true hp64
            have t64' : decide ((p.length : Int) ≤ 64) = true := decide_eq_true (by omega)
            have Hp64 : Hid _ := hp64
            have Hplen : Hid _ := hplen
            clear hp64 hplen
            go_wp2_with fail
            refine (instOf_any 1 A B C S T _).mono ?_
            rintro e w6 ⟨⟨g, rfl⟩, f6⟩
            unfold inV
            have hL6 := hL1.frame f6
            have f7 : Fr (fun _ => False) w6 ((w6.alloc (.cells #[.int .i64 A, .int .i64 B, .int .i64 C, .int .u64 (g 0), .int .u64 (g 1), .int .u64 (g 2), .int .u64 (g 3)] 47)).alloc (.cells #[.int .i64 A, .int .i64 B, .int .i64 C, .int .u64 (g 0), .int .u64 (g 1), .int .u64 (g 2), .int .u64 (g 3)] 47)) := ((Fr.refl _ _).alloc _).alloc _
            have hL7 := hL6.frame f7
            have hpx := PAt.one (w6.alloc (.cells #[.int .i64 A, .int .i64 B, .int .i64 C, .int .u64 (g 0), .int .u64 (g 1), .int .u64 (g 2), .int .u64 (g 3)] 47)) ⟨A, B, C, g 0, g 1, g 2, g 3⟩
            simp only [World.size_alloc] at hpx
            have hcode := hL7.code
            have f17 := (fO.trans f6 (fun _ _ h => h)).trans f7 (fun _ _ h => h)
            go_wp2_with (at_builtin; refine wpList_appendCode (by rfl) _ _ (by rfl) (.slice pa p.length pcap) p ⟨A, B, C, g 0, g 1, g 2, g 3⟩ (w6.heap.size + 1) 1 (by rfl) (by rfl) hcode hpx Hplen.out ?_; intro v' w8 hc hb8 f8; obtain ⟨va, vcap, rfl, hsl⟩ := hc.sl)
            have hp64 := Hp64.out
            simp only [one_append] at hc hb8
            have hL8 := hL7.recode f8 hc (by rw [one_append]; omega) hb8
            go_roundg (gk - 1)
            case measure => omega
            case rel => exact ⟨k + 1, _, str, kv, K, s, gh, rfl, by simp, by omega, by omega, hQ.keep hL8 hQ.sz _ ((f17.mono (fun _ _ h => h.elim)).trans f8 (fun _ _ h => h)) (fun b ⟨n, c, e⟩ => by have := hQ.law.pvb b n c e; omega)⟩
          · have t64 : decide (p.length ≤ 64) = false := decide_eq_false hp64
            have t64' : decide ((p.length : Int) ≤ 64) = false := decide_eq_false (by omega)
            go_wp2_with fail
            go_roundg (gk - 1)
            case measure => omega
            case rel => exact ⟨k + 1, p, str, kv, K, s, gh, rfl, by simp, by omega, by omega, hQ.keep hL1 hQ.sz (fun _ => False) fO (fun _ h => h.elim)⟩
        by_cases k2 : kind = 2
        · subst k2
          clear k1
          go_wp2_with fail
          refine (lengthen_any str S hQ.sz _).mono ?_
          rintro e w6 ⟨⟨t, rfl, ht⟩, rfl⟩
          go_wp2_with fail
          go_roundg (gk - 1)
          case measure => omega
          case rel => exact ⟨k + 1, p, t, kv, K, s, gh, rfl, by simp, by omega, by omega, hQ.keep hL1 ht (fun _ => False) fO (fun _ h => h.elim)⟩
        by_cases k9 : kind = 9
        · subst k9
          clear k1 k2
          have hL9 := hL1.recode (pv' := .slice none 0 0) (p' := []) ((Fr.refl _ _)) (.inl ⟨rfl, rfl⟩) (by simp) (fun b n c e => by cases e)
          go_wp2_with fail
          go_roundg (gk - 1)
          case measure => omega
          case rel => exact ⟨k + 1, [], _, kv, K, s, gh, rfl, by simp, by omega, by omega, hQ.keep hL9 (by show (0 : Nat) ≤ 257; omega) (fun _ => False) fO (fun _ h => h.elim)⟩
        by_cases k3 : kind = 3
        · subst k3
          clear k1 k2 k9
          have fG := fO.alloc (.cells #[.int .i64 0, .int .i64 0, .int .i64 0, .int .i64 0] 38)
          have hL2 := hQ.law.frame fG
          have hgl := hQ.gb_.lt
          obtain ⟨l1, l2, l3⟩ := hQ.law.lay
          obtain ⟨a1, a2⟩ := hQ.lay
          have hdl : w2.heap.size + 1 < wr.heap.size := by obtain ⟨fd, hfd⟩ := hQ.law.desk; exact hfd.lt
          go_wp2_with fail
          refine (mark_any hL2.mb).mono ?_
          rintro e w6 ⟨rfl, hm6, f6⟩
          have hL6 := hL2.mark f6 hm6
          have fo6 := ((Blk.op wr 3 A B C S T).alloc (.cells #[.int .i64 0, .int .i64 0, .int .i64 0, .int .i64 0] 38)).frame f6 (by omega)
          have x1 : w6.cell? ⟨wr.heap.size, 1, none⟩ = some (.int .i64 A) := fo6.cell (by omega)
          have x2 : w6.cell? ⟨wr.heap.size, 2, none⟩ = some (.int .i64 B) := fo6.cell (by omega)
          by_cases hB : B = 0
          · subst hB
            go_wp2_with fail
            refine (sameAny_fresh hL6 hm6 str A (by have := hQ.b; have := Hk42.out; omega) (by have := hQ.f; have := Hk42.out; omega) (by have := hQ.wk; have := Hk42.out; omega)).mono ?_
            rintro e w7 ⟨rfl, fS, hS⟩
            have fo7 := (fo6.frame fS (by unfold mOwn; omega))
            have y1 : w7.cell? ⟨wr.heap.size, 1, none⟩ = some (.int .i64 A) := fo7.cell (by omega)
            have fw7 : Fr (fun b => mOwn w.heap.size b ∨ b = w1.heap.size ∨ b = w2.heap.size + 1) wr w7 := ((fG.mono (fun _ _ h => h.elim)).trans f6 (fun b _ h => .inr (.inl h))).trans fS (fun _ _ h => h)
            rcases hS with ⟨hne, hL7⟩ | ⟨he, kv', s', hL7, ag⟩
            · have td : (dErr p str A == 0) = false := by simpa using hne
              go_wp2_with fail
              go_roundg (gk - 1)
              case measure => omega
              case rel => exact ⟨k + 1, p, str, kv, K, s, gh, rfl, by simp, by omega, by omega, hQ.go1 fw7 hL7⟩
            · obtain ⟨hsz, hok, nA, rfl, hnA⟩ := dErr_ok he
              have hg7 := hQ.gb_.frame fw7 (by unfold mOwn; omega)
              rw [he]
              go_wp2_with fail
              refine (room_any str nA hnA hsz _).mono ?_
              rintro e w8 ⟨rfl, rfl⟩
              go_wp2_with fail
              refine (kinds_any str nA hnA hsz _).mono ?_
              rintro e w9 ⟨rfl, f9⟩
              have hg9 := hg7.frame f9 (by simp)
              have v1 : w9.cell? ⟨w2.heap.size, 1, none⟩ = some (.int .i64 gh.room) := hg9.cell (by omega)
              have v4 : w9.cell? ⟨w2.heap.size, 4, none⟩ = some (.int .i64 gh.most) := hg9.cell (by omega)
              have z9 := hg9.frozen
              have hgl9 := hg9.lt
              have key := hQ.go0 fw7 hL7 ag (by omega) f9
              have hrb : gh.room + (str.size - nA + 1) < 4000000000000000 := by have := hQ.rm; have := Hk42.out; omega
              have hmb : gh.most + (str.size - nA + 1) + 1 < 4000000000000000 := by have := hQ.ms; have := Hk42.out; omega
              have e1 : ((gh.room + (str.size - nA + 1) : Nat) : Int) = (gh.room : Int) + (((str.size - nA : Nat) : Int) + 1) := by omega
              have e2 : ((gh.most + (str.size - nA + 1) + 1 : Nat) : Int) = (gh.most : Int) + (((str.size - nA : Nat) : Int) + 1) + 1 := by omega
              rw [Int.toNat_natCast, e1, e2] at key
              clear e1 e2
              have Hkey : Hid _ := key
              clear key
              go_wp2_with fail
              refine (copyProg_any Hkey.out.law.code hplen).mono ?_
              rintro e w10 ⟨rfl, f10, _⟩
              go_wp2_with fail
              go_roundg (gk - 1)
              case measure => omega
              case rel => exact ⟨k + 1, p, str, kv', p, s', _, rfl, by simp, by omega, by omega, Hkey.out.frame f10⟩
          · have tB : (B != 0) = true := by simpa using hB
            go_wp2_with fail
            refine (sameAny_desk hL6 hm6 str A (by have := hQ.b; have := Hk42.out; omega) (by have := hQ.f; have := Hk42.out; omega) (by have := hQ.wk; have := Hk42.out; omega)).mono ?_
            rintro e w7 ⟨rfl, fS, hS⟩
            have fo7 := (fo6.frame fS (by unfold mOwn; omega))
            have y1 : w7.cell? ⟨wr.heap.size, 1, none⟩ = some (.int .i64 A) := fo7.cell (by omega)
            have fw7 : Fr (fun b => mOwn w.heap.size b ∨ b = w1.heap.size ∨ b = w2.heap.size + 1) wr w7 := ((fG.mono (fun _ _ h => h.elim)).trans f6 (fun b _ h => .inr (.inl h))).trans fS (fun _ _ h => h)
            rcases hS with ⟨hne, hL7⟩ | ⟨he, kv', s', hL7, ag⟩
            · have td : (dErr p str A == 0) = false := by simpa using hne
              go_wp2_with fail
              go_roundg (gk - 1)
              case measure => omega
              case rel => exact ⟨k + 1, p, str, kv, K, s, gh, rfl, by simp, by omega, by omega, hQ.go1 fw7 hL7⟩
            · obtain ⟨hsz, hok, nA, rfl, hnA⟩ := dErr_ok he
              have hg7 := hQ.gb_.frame fw7 (by unfold mOwn; omega)
              rw [he]
              go_wp2_with fail
              refine (room_any str nA hnA hsz _).mono ?_
              rintro e w8 ⟨rfl, rfl⟩
              go_wp2_with fail
              refine (kinds_any str nA hnA hsz _).mono ?_
              rintro e w9 ⟨rfl, f9⟩
              have hg9 := hg7.frame f9 (by simp)
              have v1 : w9.cell? ⟨w2.heap.size, 1, none⟩ = some (.int .i64 gh.room) := hg9.cell (by omega)
              have v4 : w9.cell? ⟨w2.heap.size, 4, none⟩ = some (.int .i64 gh.most) := hg9.cell (by omega)
              have z9 := hg9.frozen
              have hgl9 := hg9.lt
              have key := hQ.go0 fw7 hL7 ag (by omega) f9
              have hrb : gh.room + (str.size - nA + 1) < 4000000000000000 := by have := hQ.rm; have := Hk42.out; omega
              have hmb : gh.most + (str.size - nA + 1) + 1 < 4000000000000000 := by have := hQ.ms; have := Hk42.out; omega
              have e1 : ((gh.room + (str.size - nA + 1) : Nat) : Int) = (gh.room : Int) + (((str.size - nA : Nat) : Int) + 1) := by omega
              have e2 : ((gh.most + (str.size - nA + 1) + 1 : Nat) : Int) = (gh.most : Int) + (((str.size - nA : Nat) : Int) + 1) + 1 := by omega
              rw [Int.toNat_natCast, e1, e2] at key
              clear e1 e2
              have Hkey : Hid _ := key
              clear key
              go_wp2_with fail
              refine (copyProg_any Hkey.out.law.code hplen).mono ?_
              rintro e w10 ⟨rfl, f10, _⟩
              go_wp2_with fail
              go_roundg (gk - 1)
              case measure => omega
              case rel => exact ⟨k + 1, p, str, kv', p, s', _, rfl, by simp, by omega, by omega, Hkey.out.frame f10⟩
        · have t1 : (kind == 1) = false := by simpa using k1
          have t2 : (kind == 2) = false := by simpa using k2
          have t9 : (kind == 9) = false := by simpa using k9
          have t3 : (kind == 3) = false := by simpa using k3
          have g0 : wr.cell? ⟨w2.heap.size, 0, none⟩ = some (.int .i64 gh.seen) := hQ.gb_.cell (by omega)
          have g1 : wr.cell? ⟨w2.heap.size, 1, none⟩ = some (.int .i64 gh.room) := hQ.gb_.cell (by omega)
          have g2 : wr.cell? ⟨w2.heap.size, 2, none⟩ = some (.int .i64 gh.fl) := hQ.gb_.cell (by omega)
          have g3 : wr.cell? ⟨w2.heap.size, 3, none⟩ = some (.int .i64 gh.toil) := hQ.gb_.cell (by omega)
          have g4 : wr.cell? ⟨w2.heap.size, 4, none⟩ = some (.int .i64 gh.most) := hQ.gb_.cell (by omega)
          have hgl := hQ.gb_.lt
          clear k1 k2 k9 k3
          go_wp2_with fail
          refine (observe_any hL1.dv gh hQ.gok (by have := hQ.b; have := hQ.wk; have := hQ.gok.b0; have := hQ.gok.w0; have := hQ.rm; have := hQ.ms; have := Hk42.out; omega) kind A B C S T).mono ?_
          rintro e w6 ⟨gh', rfl, hgk', hgr, hgm, f6⟩
          unfold ghV
          have hg6 := (hQ.gb_.frame fO (by simp)).frame f6 (by simp)
          have z6 := hg6.frozen
          have y0 := hg6.cell (o := 0) (by omega)
          have y1 := hg6.cell (o := 1) (by omega)
          have y2 := hg6.cell (o := 2) (by omega)
          have y3 := hg6.cell (o := 3) (by omega)
          have y4 := hg6.cell (o := 4) (by omega)
          have key := hQ.observe fO f6 hgk' hgr hgm
          have Hkey : Hid _ := key
          clear key
          go_wp2_with fail
          go_roundg (gk - 1)
          case measure => omega
          case rel => exact ⟨k + 1, p, str, kv, K, s, gh', rfl, by simp, by omega, by omega, Hkey.out⟩
      · have hk3 : (4398046511104 : Int) ≤ k := Int.not_lt.1 hlt2
        have hn3 : (4398046511104 : Int) ≤ n := Int.le_trans hk3 (by omega)
        have Hlt : Hid _ := hlt
        have Hkg : Hid _ := hkg'
        have hlt' : (k : Int) < n := by omega
        have q1 : decide ((k : Int) < 4398046511104) = false := decide_eq_false (Int.not_lt.2 hk3)
        have q2 : decide ((n : Int) < 4398046511104) = false := decide_eq_false (Int.not_lt.2 hn3)
        clear hlt2 hlt hkg' hk3 hn3
        go_wp2_with fail
        all_goals exact bodyPost_ret (v := .tuple #[.int .i64 (-1), .int .i64 4398046511104]) (by simp [results, Try.results7, go_sem]) rfl ⟨⟨_, rfl⟩, hfr⟩
    · have hkn : k = n := by omega
      by_cases hn2 : (n : Int) < 4398046511104
      · go_wp2_with fail
        exact bodyPost_ret (v := .tuple #[.int .i64 (-1), .int .i64 n]) (by simp [results, Try.results7, go_sem]) rfl ⟨⟨_, rfl⟩, hfr⟩
      · go_wp2_with fail
        exact bodyPost_ret (v := .tuple #[.int .i64 (-1), .int .i64 4398046511104]) (by simp [results, Try.results7, go_sem]) rfl ⟨⟨_, rfl⟩, hfr⟩
end Go.Proofs.Qxb6500282a
