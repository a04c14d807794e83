import Derived.Test.Qxb6500282aG3
namespace Go.Proofs.Qxb6500282a
open Go Go.RowKit

set_option maxRecDepth 100000 in
set_option maxHeartbeats 16000000 in
theorem walk_loud {w : World} {a : Option Addr} {n cap : Nat} (hs : ScrAt w a n) :
    Calls Try.prog 7 #[.slice a n cap, .bool false] w fun e w' => (∃ k, e = .returned (.tuple #[.int .i64 (-1), .int .i64 k])) ∧ Fr (fun _ => False) w w' := by
  go_enter Try.func7, Try.ntmps7
  go_wp2_with fail
  refine (new_any _).mono ?_
  rintro e w1 ⟨rfl, hd1, f1⟩
  go_wp2_with fail
  refine (mnew_any _).mono ?_
  rintro e w2 ⟨rfl, hm2, f2⟩
  go_wp2_with (refine wpList_makeB (by rfl) 31 _ _ (by rfl) 47 7 56 (inV ⟨0, 0, 0, 0, 0, 0, 0⟩) 65 (by rfl) (by rfl) Try.underlying31 (by kernel_rfl) (by kernel_rfl) (by kernel_rfl) (by omega) (by omega) ?_; intro w4 f4 z4 b4; simp only [World.size_alloc] at z4 b4)
  refine (ground_any _).mono ?_
  rintro e w5 ⟨rfl, f5⟩
  have hq5 := q0 hd1 f1 hm2 f2 (f4.trans f5 (fun _ _ h => h)) ⟨_, b4.frame f5 (by simp)⟩
  have hq6 := hq5.keep (hq5.law.frame ((Fr.refl (fun _ => False) w5).alloc (.cells #[.int .i64 0, .int .i64 0, .int .i64 0, .int .i64 0] 38))) (str' := ⟨#[]⟩) (by show (0 : Nat) ≤ 257; omega) (fun _ => False) ((Fr.refl (fun _ => False) w5).alloc (.cells #[.int .i64 0, .int .i64 0, .int .i64 0, .int .i64 0] 38)) (fun _ h => h.elim)
  have hdl5 : w2.heap.size + 1 < w5.heap.size := by obtain ⟨fd, hfd⟩ := hq5.law.desk; exact hfd.lt
  have HI0 : Hid (LInv w (w5.alloc (.cells #[.int .i64 0, .int .i64 0, .int .i64 0, .int .i64 0] 38)) w.heap.size w1.heap.size w2.heap.size (w2.heap.size + 1) w5.heap.size (0 + 1) (.slice none 0 0) [] ⟨#[]⟩ (.slice none 0 0) [] ds0 gh0 (.slice none 0 0) false 0) :=
    ⟨hq6, Blk.g w5 0 0 0 0, hdl5, .inl ⟨rfl, rfl⟩, fun b n c e => (by cases e), fun b n c e => (by cases e), fun e => (by cases e)⟩
  clear hq5 hq6 hd1 hm2 b4 z4 f4 f5 f1 f2
  go_wp2_with fail
  refine (check_any HI0.out.q.law.dv).mono ?_
  rintro e w6 ⟨rfl, f6⟩
  have HI1 : Hid _ := HI0.out.frame f6
  go_wp2_with fail
  refine (look_any HI1.out.q.law.dv.mach).mono ?_
  rintro e w7 ⟨rfl, f7⟩
  have HI2 : Hid _ := HI1.out.frame f7
  have z0 : w7.cell? ⟨w5.heap.size, 0, none⟩ = some (.int .i64 0) := HI2.out.sb_.cell (by omega)
  have z1 : w7.cell? ⟨w5.heap.size, 1, none⟩ = some (.int .i64 0) := HI2.out.sb_.cell (by omega)
  have z2 : w7.cell? ⟨w5.heap.size, 2, none⟩ = some (.int .i64 0) := HI2.out.sb_.cell (by omega)
  have z3 : w7.cell? ⟨w5.heap.size, 3, none⟩ = some (.int .i64 0) := HI2.out.sb_.cell (by omega)
  have zlt := HI2.out.sb_.lt
  have eg : gV ds0.used ds0.built ds0.flushes ds0.worked = .agg #[.int .i64 0, .int .i64 0, .int .i64 0, .int .i64 0] := rfl
  rw [eg]
  have HI3 : Hid _ := HI2.out.frame ((Fr.refl (fun _ => False) w7).alloc (.cells #[.int .i64 0, .int .i64 0, .int .i64 0, .int .i64 0] 38))
  clear HI0 HI1 HI2
  go_wp2_with fail
  go_loopg [8, 9, 11, 12, 13, 17] n (fun g pvv sv av tv lvv kvv wr => ∃ (k : Nat) (p : List In) (str : ByteArray) (kv : Value) (K : List In) (s : DS) (gh : Gh) (tw : Bool) (A0 : Int), sv = .string str ∧ av = .int .i64 A0 ∧ tv = .bool tw ∧ kvv = .int .i64 k ∧ k + g = n ∧ k ≤ 4398046511104 ∧ LInv w wr w.heap.size w1.heap.size w2.heap.size (w2.heap.size + 1) w5.heap.size (k + 1) pvv p str kv K s gh lvv tw A0)
  case atStart => exact ⟨0, [], _, _, _, _, _, false, 0, rfl, rfl, rfl, rfl, by omega, by omega, HI3.out⟩
  case round =>
    clear HI3 z0 z1 z2 z3 f6 f7 zlt eg
    obtain ⟨k, p, str, kv, K, s, gh, tw, A0, rfl, rfl, rfl, rfl, hkg, hk42, hI⟩ := hrel
    obtain ⟨pa, pcap, epv⟩ : ∃ a c, u8 = .slice a p.length c := by
      obtain ⟨a, c, e, _⟩ := hI.q.law.code.sl
      exact ⟨a, c, e⟩
    subst epv
    obtain ⟨la, lcap, elv⟩ : ∃ a c, u13 = .slice a K.length c := by
      obtain ⟨a, c, e, _⟩ := hI.last.sl
      exact ⟨a, c, e⟩
    subst elv
    have hkg' : k + gk = n := hkg
    clear hkg
    have Hk42 : Hid _ := hk42
    clear hk42
    have hkb : (k : Int) < 140737488355328 := by have := Hk42.out; omega
    have hfr := hI.q.fr
    have hsl := hI.sb_.lt
    by_cases hlt : k < n
    · by_cases hlt2 : (k : Int) < 4398046511104
      · rcases hs with h0 | ⟨b, off, rfl, hb, hcells⟩
        · exact absurd hlt (by omega)
        obtain ⟨kind, A, B, C, S, T, c0, c1, c2, c3, c4, c5⟩ := hcells k hlt
        rw [← hfr.cell (p := ⟨b, off + k * 6, none⟩) hb (by simp)] at c0
        rw [← hfr.cell (p := ⟨b, off + k * 6 + 1, none⟩) hb (by simp)] at c1
        rw [← hfr.cell (p := ⟨b, off + k * 6 + 2, none⟩) hb (by simp)] at c2
        rw [← hfr.cell (p := ⟨b, off + k * 6 + 3, none⟩) hb (by simp)] at c3
        rw [← hfr.cell (p := ⟨b, off + k * 6 + 4, none⟩) hb (by simp)] at c4
        rw [← hfr.cell (p := ⟨b, off + k * 6 + 5, none⟩) hb (by simp)] at c5
        clear hcells
        have fO := (Fr.refl (fun _ => False) wr).alloc (.cells #[.int .i64 kind, .int .i64 A, .int .i64 B, .int .i64 C, .string S, .string T] 42)
        have hL1 := hI.q.law.frame fO
        have hplen := hI.q.law.len
        by_cases k1 : kind = 1
        · subst k1
          by_cases hp64 : p.length ≤ 64
          · have t64 : decide (p.length ≤ 64) = true := decide_eq_true hp64
            have t64' : decide ((p.length : Int) ≤ 64) = true := decide_eq_true (by omega)
            have Hp64 : Hid _ := hp64
            have Hplen : Hid _ := hplen
            clear hp64 hplen
            go_wp2_with fail
            refine (instOf_any 1 A B C S T _).mono ?_
            rintro e w6 ⟨⟨g, rfl⟩, f6⟩
            unfold inV
            have hL6 := hL1.frame f6
            have f7 : Fr (fun _ => False) w6 ((w6.alloc (.cells #[.int .i64 A, .int .i64 B, .int .i64 C, .int .u64 (g 0), .int .u64 (g 1), .int .u64 (g 2), .int .u64 (g 3)] 47)).alloc (.cells #[.int .i64 A, .int .i64 B, .int .i64 C, .int .u64 (g 0), .int .u64 (g 1), .int .u64 (g 2), .int .u64 (g 3)] 47)) := ((Fr.refl _ _).alloc _).alloc _
            have hL7 := hL6.frame f7
            have hpx := PAt.one (w6.alloc (.cells #[.int .i64 A, .int .i64 B, .int .i64 C, .int .u64 (g 0), .int .u64 (g 1), .int .u64 (g 2), .int .u64 (g 3)] 47)) ⟨A, B, C, g 0, g 1, g 2, g 3⟩
            simp only [World.size_alloc] at hpx
            have hcode := hL7.code
            have f17 := (fO.trans f6 (fun _ _ h => h)).trans f7 (fun _ _ h => h)
            have HIi : Hid _ := hI
            clear hI
            go_wp2_with (at_builtin; refine wpList_appendCode (by rfl) _ _ (by rfl) (.slice pa p.length pcap) p ⟨A, B, C, g 0, g 1, g 2, g 3⟩ (w6.heap.size + 1) 1 (by rfl) (by rfl) hcode hpx Hplen.out ?_; intro v' w8 hc hb8 f8; obtain ⟨va, vcap, rfl, hsl8⟩ := hc.sl; have hc2 := hc; have hb2 := hb8; simp only [one_append] at hc2 hb2; have hL8 := hL7.recode f8 hc2 (by rw [one_append]; have := Hp64.out; omega) hb2; have HT : Hid _ := HIi.out.keep hL8 HIi.out.q.sz ((f17.mono (fun _ _ h => h.elim)).trans f8 (fun _ _ h => h)) (fun b n c e => by rcases hb2 b n c e with h1 | h1 <;> first | exact .inr h1 | (left; have := f17.size; omega) | exact .inl h1))
            refine (check_any HT.out.q.law.dv).mono ?_
            rintro e wc ⟨rfl, fc⟩
            have HC : Hid _ := HT.out.frame fc
            clear HT
            go_wp2_with fail
            refine (look_any HC.out.q.law.dv.mach).mono ?_
            rintro e wl ⟨rfl, fl⟩
            unfold gV
            have HL : Hid _ := HC.out.frame fl
            clear HC
            have z0 : wl.cell? ⟨w5.heap.size, 0, none⟩ = some (.int .i64 (s.used : Nat)) := HL.out.sb_.cell (by omega)
            have z1 : wl.cell? ⟨w5.heap.size, 1, none⟩ = some (.int .i64 (s.built : Nat)) := HL.out.sb_.cell (by omega)
            have z2 : wl.cell? ⟨w5.heap.size, 2, none⟩ = some (.int .i64 (s.flushes : Nat)) := HL.out.sb_.cell (by omega)
            have z3 : wl.cell? ⟨w5.heap.size, 3, none⟩ = some (.int .i64 (s.worked : Nat)) := HL.out.sb_.cell (by omega)
            have zlt := HL.out.sb_.lt
            go_wp2_with fail
            refine (bounded_any s.used s.built s.flushes s.worked HL.out.q.law.dv.inv.used HL.out.q.law.dv.bu _).mono ?_
            rintro e wm ⟨rfl, fm⟩
            have HM : Hid _ := (HL.out.frame ((Fr.refl (fun _ => False) wl).alloc (.cells #[.int .i64 s.used, .int .i64 s.built, .int .i64 s.flushes, .int .i64 s.worked] 38))).frame fm
            clear HL
            go_wp2_with fail
            go_roundg (gk - 1)
            case measure => omega
            case rel => exact ⟨k + 1, _, _, _, _, _, _, _, _, rfl, rfl, rfl, by simp, by omega, by omega, HM.out⟩
          · have t64 : decide (p.length ≤ 64) = false := decide_eq_false hp64
            have t64' : decide ((p.length : Int) ≤ 64) = false := decide_eq_false (by omega)
            have HT : Hid _ := hI.keep hL1 hI.q.sz (fO.mono (fun _ _ h => h.elim)) (fun b n c e => .inr ⟨n, c, e⟩)
            clear hI
            go_wp2_with fail
            refine (check_any HT.out.q.law.dv).mono ?_
            rintro e wc ⟨rfl, fc⟩
            have HC : Hid _ := HT.out.frame fc
            clear HT
            go_wp2_with fail
            refine (look_any HC.out.q.law.dv.mach).mono ?_
            rintro e wl ⟨rfl, fl⟩
            unfold gV
            have HL : Hid _ := HC.out.frame fl
            clear HC
            have z0 : wl.cell? ⟨w5.heap.size, 0, none⟩ = some (.int .i64 (s.used : Nat)) := HL.out.sb_.cell (by omega)
            have z1 : wl.cell? ⟨w5.heap.size, 1, none⟩ = some (.int .i64 (s.built : Nat)) := HL.out.sb_.cell (by omega)
            have z2 : wl.cell? ⟨w5.heap.size, 2, none⟩ = some (.int .i64 (s.flushes : Nat)) := HL.out.sb_.cell (by omega)
            have z3 : wl.cell? ⟨w5.heap.size, 3, none⟩ = some (.int .i64 (s.worked : Nat)) := HL.out.sb_.cell (by omega)
            have zlt := HL.out.sb_.lt
            go_wp2_with fail
            refine (bounded_any s.used s.built s.flushes s.worked HL.out.q.law.dv.inv.used HL.out.q.law.dv.bu _).mono ?_
            rintro e wm ⟨rfl, fm⟩
            have HM : Hid _ := (HL.out.frame ((Fr.refl (fun _ => False) wl).alloc (.cells #[.int .i64 s.used, .int .i64 s.built, .int .i64 s.flushes, .int .i64 s.worked] 38))).frame fm
            clear HL
            go_wp2_with fail
            go_roundg (gk - 1)
            case measure => omega
            case rel => exact ⟨k + 1, _, _, _, _, _, _, _, _, rfl, rfl, rfl, by simp, by omega, by omega, HM.out⟩
        by_cases k2 : kind = 2
        · subst k2
          clear k1
          go_wp2_with fail
          refine (lengthen_any str S hI.q.sz _).mono ?_
          rintro e w6 ⟨⟨t, rfl, ht⟩, rfl⟩
          have HT : Hid _ := hI.keep hL1 ht (fO.mono (fun _ _ h => h.elim)) (fun b n c e => .inr ⟨n, c, e⟩)
          clear hI
          go_wp2_with fail
          refine (check_any HT.out.q.law.dv).mono ?_
          rintro e wc ⟨rfl, fc⟩
          have HC : Hid _ := HT.out.frame fc
          clear HT
          go_wp2_with fail
          refine (look_any HC.out.q.law.dv.mach).mono ?_
          rintro e wl ⟨rfl, fl⟩
          unfold gV
          have HL : Hid _ := HC.out.frame fl
          clear HC
          have z0 : wl.cell? ⟨w5.heap.size, 0, none⟩ = some (.int .i64 (s.used : Nat)) := HL.out.sb_.cell (by omega)
          have z1 : wl.cell? ⟨w5.heap.size, 1, none⟩ = some (.int .i64 (s.built : Nat)) := HL.out.sb_.cell (by omega)
          have z2 : wl.cell? ⟨w5.heap.size, 2, none⟩ = some (.int .i64 (s.flushes : Nat)) := HL.out.sb_.cell (by omega)
          have z3 : wl.cell? ⟨w5.heap.size, 3, none⟩ = some (.int .i64 (s.worked : Nat)) := HL.out.sb_.cell (by omega)
          have zlt := HL.out.sb_.lt
          go_wp2_with fail
          refine (bounded_any s.used s.built s.flushes s.worked HL.out.q.law.dv.inv.used HL.out.q.law.dv.bu _).mono ?_
          rintro e wm ⟨rfl, fm⟩
          have HM : Hid _ := (HL.out.frame ((Fr.refl (fun _ => False) wl).alloc (.cells #[.int .i64 s.used, .int .i64 s.built, .int .i64 s.flushes, .int .i64 s.worked] 38))).frame fm
          clear HL
          go_wp2_with fail
          go_roundg (gk - 1)
          case measure => omega
          case rel => exact ⟨k + 1, _, _, _, _, _, _, _, _, rfl, rfl, rfl, by simp, by omega, by omega, HM.out⟩
        by_cases k9 : kind = 9
        · subst k9
          clear k1 k2
          have hL9 := hL1.recode (pv' := .slice none 0 0) (p' := []) ((Fr.refl _ _)) (.inl ⟨rfl, rfl⟩) (by simp) (fun b n c e => by cases e)
          have HT : Hid _ := hI.keep (str' := ⟨#[]⟩) hL9 (by show (0 : Nat) ≤ 257; omega) (fO.mono (fun _ _ h => h.elim)) (fun b n c e => by cases e)
          clear hI
          go_wp2_with fail
          refine (check_any HT.out.q.law.dv).mono ?_
          rintro e wc ⟨rfl, fc⟩
          have HC : Hid _ := HT.out.frame fc
          clear HT
          go_wp2_with fail
          refine (look_any HC.out.q.law.dv.mach).mono ?_
          rintro e wl ⟨rfl, fl⟩
          unfold gV
          have HL : Hid _ := HC.out.frame fl
          clear HC
          have z0 : wl.cell? ⟨w5.heap.size, 0, none⟩ = some (.int .i64 (s.used : Nat)) := HL.out.sb_.cell (by omega)
          have z1 : wl.cell? ⟨w5.heap.size, 1, none⟩ = some (.int .i64 (s.built : Nat)) := HL.out.sb_.cell (by omega)
          have z2 : wl.cell? ⟨w5.heap.size, 2, none⟩ = some (.int .i64 (s.flushes : Nat)) := HL.out.sb_.cell (by omega)
          have z3 : wl.cell? ⟨w5.heap.size, 3, none⟩ = some (.int .i64 (s.worked : Nat)) := HL.out.sb_.cell (by omega)
          have zlt := HL.out.sb_.lt
          go_wp2_with fail
          refine (bounded_any s.used s.built s.flushes s.worked HL.out.q.law.dv.inv.used HL.out.q.law.dv.bu _).mono ?_
          rintro e wm ⟨rfl, fm⟩
          have HM : Hid _ := (HL.out.frame ((Fr.refl (fun _ => False) wl).alloc (.cells #[.int .i64 s.used, .int .i64 s.built, .int .i64 s.flushes, .int .i64 s.worked] 38))).frame fm
          clear HL
          go_wp2_with fail
          go_roundg (gk - 1)
          case measure => omega
          case rel => exact ⟨k + 1, _, _, _, _, _, _, _, _, rfl, rfl, rfl, by simp, by omega, by omega, HM.out⟩
        by_cases k3 : kind = 3
        · subst k3
          clear k1 k2 k9
          have fG := fO.alloc (.cells #[.int .i64 0, .int .i64 0, .int .i64 0, .int .i64 0] 38)
          have HIG : Hid _ := hI.frame fG
          have hgl := hI.q.gb_.lt
          obtain ⟨l1, l2, l3⟩ := hI.q.law.lay
          obtain ⟨a1, a2⟩ := hI.q.lay
          have hdl := hI.lay
          go_wp2_with fail
          refine (look_any HIG.out.q.law.dv.mach).mono ?_
          rintro e w6 ⟨rfl, f6⟩
          unfold gV
          have hwas0 := Blk.g (wr.alloc (.cells #[.int .i64 3, .int .i64 A, .int .i64 B, .int .i64 C, .string S, .string T] 42)) 0 0 0 0
          rw [World.size_alloc] at hwas0
          have hwas6 := hwas0.frame f6 (by simp)
          have hop6 := ((Blk.op wr 3 A B C S T).alloc (.cells #[.int .i64 0, .int .i64 0, .int .i64 0, .int .i64 0] 38)).frame f6 (by simp)
          have v0 : w6.cell? ⟨wr.heap.size + 1, 0, none⟩ = some (.int .i64 0) := hwas6.cell (by omega)
          have v1 : w6.cell? ⟨wr.heap.size + 1, 1, none⟩ = some (.int .i64 0) := hwas6.cell (by omega)
          have v2 : w6.cell? ⟨wr.heap.size + 1, 2, none⟩ = some (.int .i64 0) := hwas6.cell (by omega)
          have v3 : w6.cell? ⟨wr.heap.size + 1, 3, none⟩ = some (.int .i64 0) := hwas6.cell (by omega)
          have z6 := hwas6.frozen
          have hwl6 := hwas6.lt
          have f06 := fG.trans f6 (fun _ _ h => h)
          have HI6 : Hid _ := hI.frame f06
          have s0 : w6.cell? ⟨w5.heap.size, 0, none⟩ = some (.int .i64 (s.used : Nat)) := HI6.out.sb_.cell (by omega)
          have s1 : w6.cell? ⟨w5.heap.size, 1, none⟩ = some (.int .i64 (s.built : Nat)) := HI6.out.sb_.cell (by omega)
          have s2 : w6.cell? ⟨w5.heap.size, 2, none⟩ = some (.int .i64 (s.flushes : Nat)) := HI6.out.sb_.cell (by omega)
          have s3 : w6.cell? ⟨w5.heap.size, 3, none⟩ = some (.int .i64 (s.worked : Nat)) := HI6.out.sb_.cell (by omega)
          have fB := f06.gset (b' := wr.heap.size + 1) (fun h => by omega) s.used s.built s.flushes s.worked
          have f6B := (Fr.refl (fun b => b = wr.heap.size + 1) w6).gset (b' := wr.heap.size + 1) (fun _ => rfl) s.used s.built s.flushes s.worked
          have HIB : Hid _ := hI.frame fB
          have hwasB := hwas6.gset s.used s.built s.flushes s.worked
          have hopB := hop6.frame f6B (by omega)
          clear HIG HI6 hwas0
          go_wp2_with fail
          refine (mark_any HIB.out.q.law.mb).mono ?_
          rintro e w7 ⟨rfl, hm7, f7⟩
          have hL7 := HIB.out.q.law.mark f7 hm7
          have hop7 := hopB.frame f7 (by omega)
          have x1 : w7.cell? ⟨wr.heap.size, 1, none⟩ = some (.int .i64 A) := hop7.cell (by omega)
          have x2 : w7.cell? ⟨wr.heap.size, 2, none⟩ = some (.int .i64 B) := hop7.cell (by omega)
          clear v0 v1 v2 v3 s0 s1 s2 s3 c0 c1 c2 c3 c4 c5
          by_cases hB : B = 0
          · subst hB
            go_wp2_with fail
            refine (sameAny_fresh hL7 hm7 str A (by have := hI.q.b; have := Hk42.out; omega) (by have := hI.q.f; have := Hk42.out; omega) (by have := hI.q.wk; have := Hk42.out; omega)).mono ?_
            rintro e w8 ⟨rfl, fS, hS⟩
            have fw8 : Fr (fun b => mOwn w.heap.size b ∨ b = w1.heap.size ∨ b = w2.heap.size + 1) ((((w6.setCell ⟨wr.heap.size + 1, 0, none⟩ (.int .i64 s.used)).setCell ⟨wr.heap.size + 1, 1, none⟩ (.int .i64 s.built)).setCell ⟨wr.heap.size + 1, 2, none⟩ (.int .i64 s.flushes)).setCell ⟨wr.heap.size + 1, 3, none⟩ (.int .i64 s.worked)) w8 := (f7.mono (fun b _ h => .inr (.inl h))).trans fS (fun _ _ h => h)
            have hop8 := hop7.frame fS (by unfold mOwn; omega)
            have y1 : w8.cell? ⟨wr.heap.size, 1, none⟩ = some (.int .i64 A) := hop8.cell (by omega)
            rcases hS with ⟨hne, hL8⟩ | ⟨he, kv', s', hL8, ag⟩
            · as_aux_lemma =>
                have td : (dErr p str A == 0) = false := by simpa using hne
                have hMa := hL8.dv.mach
                have fW : Fr (fun b => b ≤ w2.heap.size + 1) ((((w6.setCell ⟨wr.heap.size + 1, 0, none⟩ (.int .i64 s.used)).setCell ⟨wr.heap.size + 1, 1, none⟩ (.int .i64 s.built)).setCell ⟨wr.heap.size + 1, 2, none⟩ (.int .i64 s.flushes)).setCell ⟨wr.heap.size + 1, 3, none⟩ (.int .i64 s.worked)) w8 := fw8.mono (fun b _ h => by unfold mOwn at h; omega)
                have hcW := hL8.code
                go_wp2_with fail
                refine (look_any hMa).mono ?_
                rintro e w9 ⟨rfl, f9⟩
                unfold gV
                have f9A := f9.alloc (.cells #[.int .i64 s.used, .int .i64 s.built, .int .i64 s.flushes, .int .i64 s.worked] 38)
                have fWA := fW.trans f9A (fun _ _ h => h.elim)
                have hcA := hcW.frame f9A (fun _ _ _ _ h => h)
                have hlA := (hI.last.frame fB (fun _ _ _ _ h => h)).frame fWA (fun b n c e h => by have := (hI.lvb b n c e).1; omega)
                have hnow9 := Blk.g w9 s.used s.built s.flushes s.worked
                have hwas9 := hwasB.frame fWA (by omega)
                have hop9 := hopB.frame fWA (by omega)
                have hsb9 := (HIB.out.sb_).frame fWA (by omega)
                have hn9 : wr.heap.size + 1 < w9.heap.size := by have := (hwasB.frame (fW.trans f9 (fun _ _ h => h.elim)) (by omega)).lt; omega
                clear f7 hm7 hop7 x1 x2 hop6 hwas6 f6B y1
                go_wp2_with fail
                refine (sameProg_any hcA.sl hlA.sl hI.q.law.dv.kv.len).mono ?_
                rintro e w10 ⟨rfl, f10⟩
                have hnow10 := hnow9.frame f10 (by simp)
                have hwas10 := hwas9.frame f10 (by simp)
                have hop10 := hop9.frame f10 (by simp)
                have hsb10 := hsb9.frame f10 (by simp)
                have a0 : w10.cell? ⟨wr.heap.size + 1, 0, none⟩ = some (.int .i64 (s.used : Nat)) := hwas10.cell (by omega)
                have a1 : w10.cell? ⟨wr.heap.size + 1, 1, none⟩ = some (.int .i64 (s.built : Nat)) := hwas10.cell (by omega)
                have a2 : w10.cell? ⟨wr.heap.size + 1, 2, none⟩ = some (.int .i64 (s.flushes : Nat)) := hwas10.cell (by omega)
                have a3 : w10.cell? ⟨wr.heap.size + 1, 3, none⟩ = some (.int .i64 (s.worked : Nat)) := hwas10.cell (by omega)
                have b0 : w10.cell? ⟨w9.heap.size, 0, none⟩ = some (.int .i64 (s.used : Nat)) := hnow10.cell (by omega)
                have b1 : w10.cell? ⟨w9.heap.size, 1, none⟩ = some (.int .i64 (s.built : Nat)) := hnow10.cell (by omega)
                have b2 : w10.cell? ⟨w9.heap.size, 2, none⟩ = some (.int .i64 (s.flushes : Nat)) := hnow10.cell (by omega)
                have b3 : w10.cell? ⟨w9.heap.size, 3, none⟩ = some (.int .i64 (s.worked : Nat)) := hnow10.cell (by omega)
                have q1 : w10.cell? ⟨wr.heap.size, 1, none⟩ = some (.int .i64 A) := hop10.cell (by omega)
                have hl10a := hwas10.lt
                have hl10b := hnow10.lt
                cases tw
                · go_wp2_with fail
                  refine (held_err hI.q.law.dv.inv.used hI.q.law.dv.bu (dErr p str A) hne 0 0 false (!sameP p K) _).mono ?_
                  rintro e w11 ⟨rfl, f11⟩
                  have hnow11 := hnow10.frame f11 (by simp)
                  have hwas11 := hwas10.frame f11 (by simp)
                  have hop11 := hop10.frame f11 (by simp)
                  have hsb11 := hsb10.frame f11 (by simp)
                  have c0 : w11.cell? ⟨wr.heap.size + 1, 0, none⟩ = some (.int .i64 (s.used : Nat)) := hwas11.cell (by omega)
                  have c1 : w11.cell? ⟨wr.heap.size + 1, 1, none⟩ = some (.int .i64 (s.built : Nat)) := hwas11.cell (by omega)
                  have c2 : w11.cell? ⟨wr.heap.size + 1, 2, none⟩ = some (.int .i64 (s.flushes : Nat)) := hwas11.cell (by omega)
                  have c3 : w11.cell? ⟨wr.heap.size + 1, 3, none⟩ = some (.int .i64 (s.worked : Nat)) := hwas11.cell (by omega)
                  have d0 : w11.cell? ⟨w9.heap.size, 0, none⟩ = some (.int .i64 (s.used : Nat)) := hnow11.cell (by omega)
                  have d1 : w11.cell? ⟨w9.heap.size, 1, none⟩ = some (.int .i64 (s.built : Nat)) := hnow11.cell (by omega)
                  have d2 : w11.cell? ⟨w9.heap.size, 2, none⟩ = some (.int .i64 (s.flushes : Nat)) := hnow11.cell (by omega)
                  have d3 : w11.cell? ⟨w9.heap.size, 3, none⟩ = some (.int .i64 (s.worked : Nat)) := hnow11.cell (by omega)
                  have r1 : w11.cell? ⟨wr.heap.size, 1, none⟩ = some (.int .i64 A) := hop11.cell (by omega)
                  have t0 : w11.cell? ⟨w5.heap.size, 0, none⟩ = some (.int .i64 (s.used : Nat)) := hsb11.cell (by omega)
                  have t1 : w11.cell? ⟨w5.heap.size, 1, none⟩ = some (.int .i64 (s.built : Nat)) := hsb11.cell (by omega)
                  have t2 : w11.cell? ⟨w5.heap.size, 2, none⟩ = some (.int .i64 (s.flushes : Nat)) := hsb11.cell (by omega)
                  have t3 : w11.cell? ⟨w5.heap.size, 3, none⟩ = some (.int .i64 (s.worked : Nat)) := hsb11.cell (by omega)
                  have z11 := hsb11.frozen
                  have hl11a := hwas11.lt
                  have hl11b := hnow11.lt
                  have f12 := (Fr.refl (fun b => b = w5.heap.size) w11).gset (b' := w5.heap.size) (fun _ => rfl) s.used s.built s.flushes s.worked
                  have hsb12 := hsb11.gset s.used s.built s.flushes s.worked
                  clear a0 a1 a2 a3 b0 b1 b2 b3 q1
                  have HT : Hid _ := HIB.out.err (A := A) fw8 hL8 ((f9A.trans f10 (fun _ _ h => h)).trans f11 (fun _ _ h => h)) f12 hsb12
                  clear hI HIB hL8 hL7 hcW hlA hcA hL1
                  go_wp2_with fail
                  refine (check_any HT.out.q.law.dv).mono ?_
                  rintro e wc ⟨rfl, fc⟩
                  have HC : Hid _ := HT.out.frame fc
                  clear HT
                  go_wp2_with fail
                  refine (look_any HC.out.q.law.dv.mach).mono ?_
                  rintro e wl ⟨rfl, fl⟩
                  unfold gV
                  have HL : Hid _ := HC.out.frame fl
                  clear HC
                  have z0 : wl.cell? ⟨w5.heap.size, 0, none⟩ = some (.int .i64 (s.used : Nat)) := HL.out.sb_.cell (by omega)
                  have z1 : wl.cell? ⟨w5.heap.size, 1, none⟩ = some (.int .i64 (s.built : Nat)) := HL.out.sb_.cell (by omega)
                  have z2 : wl.cell? ⟨w5.heap.size, 2, none⟩ = some (.int .i64 (s.flushes : Nat)) := HL.out.sb_.cell (by omega)
                  have z3 : wl.cell? ⟨w5.heap.size, 3, none⟩ = some (.int .i64 (s.worked : Nat)) := HL.out.sb_.cell (by omega)
                  have zlt := HL.out.sb_.lt
                  go_wp2_with fail
                  refine (bounded_any s.used s.built s.flushes s.worked HL.out.q.law.dv.inv.used HL.out.q.law.dv.bu _).mono ?_
                  rintro e wm ⟨rfl, fm⟩
                  have HM : Hid _ := (HL.out.frame ((Fr.refl (fun _ => False) wl).alloc (.cells #[.int .i64 s.used, .int .i64 s.built, .int .i64 s.flushes, .int .i64 s.worked] 38))).frame fm
                  clear HL
                  go_wp2_with fail
                  go_roundg (gk - 1)
                  case measure => omega
                  case rel => exact ⟨k + 1, _, _, _, _, _, _, _, _, rfl, rfl, rfl, by simp, by omega, by omega, HM.out⟩
                · by_cases hA : A = A0
                  · have tA : (A0 == A) = true := by rw [hA]; exact beq_self_eq_true _
                    have HA : Hid _ := hA
                    clear hA
                    go_wp2_with fail
                    refine (held_err hI.q.law.dv.inv.used hI.q.law.dv.bu (dErr p str A) hne 0 0 true (!sameP p K) _).mono ?_
                    rintro e w11 ⟨rfl, f11⟩
                    have hnow11 := hnow10.frame f11 (by simp)
                    have hwas11 := hwas10.frame f11 (by simp)
                    have hop11 := hop10.frame f11 (by simp)
                    have hsb11 := hsb10.frame f11 (by simp)
                    have c0 : w11.cell? ⟨wr.heap.size + 1, 0, none⟩ = some (.int .i64 (s.used : Nat)) := hwas11.cell (by omega)
                    have c1 : w11.cell? ⟨wr.heap.size + 1, 1, none⟩ = some (.int .i64 (s.built : Nat)) := hwas11.cell (by omega)
                    have c2 : w11.cell? ⟨wr.heap.size + 1, 2, none⟩ = some (.int .i64 (s.flushes : Nat)) := hwas11.cell (by omega)
                    have c3 : w11.cell? ⟨wr.heap.size + 1, 3, none⟩ = some (.int .i64 (s.worked : Nat)) := hwas11.cell (by omega)
                    have d0 : w11.cell? ⟨w9.heap.size, 0, none⟩ = some (.int .i64 (s.used : Nat)) := hnow11.cell (by omega)
                    have d1 : w11.cell? ⟨w9.heap.size, 1, none⟩ = some (.int .i64 (s.built : Nat)) := hnow11.cell (by omega)
                    have d2 : w11.cell? ⟨w9.heap.size, 2, none⟩ = some (.int .i64 (s.flushes : Nat)) := hnow11.cell (by omega)
                    have d3 : w11.cell? ⟨w9.heap.size, 3, none⟩ = some (.int .i64 (s.worked : Nat)) := hnow11.cell (by omega)
                    have r1 : w11.cell? ⟨wr.heap.size, 1, none⟩ = some (.int .i64 A) := hop11.cell (by omega)
                    have t0 : w11.cell? ⟨w5.heap.size, 0, none⟩ = some (.int .i64 (s.used : Nat)) := hsb11.cell (by omega)
                    have t1 : w11.cell? ⟨w5.heap.size, 1, none⟩ = some (.int .i64 (s.built : Nat)) := hsb11.cell (by omega)
                    have t2 : w11.cell? ⟨w5.heap.size, 2, none⟩ = some (.int .i64 (s.flushes : Nat)) := hsb11.cell (by omega)
                    have t3 : w11.cell? ⟨w5.heap.size, 3, none⟩ = some (.int .i64 (s.worked : Nat)) := hsb11.cell (by omega)
                    have z11 := hsb11.frozen
                    have hl11a := hwas11.lt
                    have hl11b := hnow11.lt
                    have f12 := (Fr.refl (fun b => b = w5.heap.size) w11).gset (b' := w5.heap.size) (fun _ => rfl) s.used s.built s.flushes s.worked
                    have hsb12 := hsb11.gset s.used s.built s.flushes s.worked
                    clear a0 a1 a2 a3 b0 b1 b2 b3 q1
                    have HT : Hid _ := HIB.out.err (A := A) fw8 hL8 ((f9A.trans f10 (fun _ _ h => h)).trans f11 (fun _ _ h => h)) f12 hsb12
                    clear hI HIB hL8 hL7 hcW hlA hcA hL1
                    go_wp2_with fail
                    refine (check_any HT.out.q.law.dv).mono ?_
                    rintro e wc ⟨rfl, fc⟩
                    have HC : Hid _ := HT.out.frame fc
                    clear HT
                    go_wp2_with fail
                    refine (look_any HC.out.q.law.dv.mach).mono ?_
                    rintro e wl ⟨rfl, fl⟩
                    unfold gV
                    have HL : Hid _ := HC.out.frame fl
                    clear HC
                    have z0 : wl.cell? ⟨w5.heap.size, 0, none⟩ = some (.int .i64 (s.used : Nat)) := HL.out.sb_.cell (by omega)
                    have z1 : wl.cell? ⟨w5.heap.size, 1, none⟩ = some (.int .i64 (s.built : Nat)) := HL.out.sb_.cell (by omega)
                    have z2 : wl.cell? ⟨w5.heap.size, 2, none⟩ = some (.int .i64 (s.flushes : Nat)) := HL.out.sb_.cell (by omega)
                    have z3 : wl.cell? ⟨w5.heap.size, 3, none⟩ = some (.int .i64 (s.worked : Nat)) := HL.out.sb_.cell (by omega)
                    have zlt := HL.out.sb_.lt
                    go_wp2_with fail
                    refine (bounded_any s.used s.built s.flushes s.worked HL.out.q.law.dv.inv.used HL.out.q.law.dv.bu _).mono ?_
                    rintro e wm ⟨rfl, fm⟩
                    have HM : Hid _ := (HL.out.frame ((Fr.refl (fun _ => False) wl).alloc (.cells #[.int .i64 s.used, .int .i64 s.built, .int .i64 s.flushes, .int .i64 s.worked] 38))).frame fm
                    clear HL
                    go_wp2_with fail
                    go_roundg (gk - 1)
                    case measure => omega
                    case rel => exact ⟨k + 1, _, _, _, _, _, _, _, _, rfl, rfl, rfl, by simp, by omega, by omega, HM.out⟩
                  · have tA : (A0 == A) = false := by simpa using fun e => hA e.symm
                    go_wp2_with fail
                    refine (held_err hI.q.law.dv.inv.used hI.q.law.dv.bu (dErr p str A) hne 0 0 false (!sameP p K) _).mono ?_
                    rintro e w11 ⟨rfl, f11⟩
                    have hnow11 := hnow10.frame f11 (by simp)
                    have hwas11 := hwas10.frame f11 (by simp)
                    have hop11 := hop10.frame f11 (by simp)
                    have hsb11 := hsb10.frame f11 (by simp)
                    have c0 : w11.cell? ⟨wr.heap.size + 1, 0, none⟩ = some (.int .i64 (s.used : Nat)) := hwas11.cell (by omega)
                    have c1 : w11.cell? ⟨wr.heap.size + 1, 1, none⟩ = some (.int .i64 (s.built : Nat)) := hwas11.cell (by omega)
                    have c2 : w11.cell? ⟨wr.heap.size + 1, 2, none⟩ = some (.int .i64 (s.flushes : Nat)) := hwas11.cell (by omega)
                    have c3 : w11.cell? ⟨wr.heap.size + 1, 3, none⟩ = some (.int .i64 (s.worked : Nat)) := hwas11.cell (by omega)
                    have d0 : w11.cell? ⟨w9.heap.size, 0, none⟩ = some (.int .i64 (s.used : Nat)) := hnow11.cell (by omega)
                    have d1 : w11.cell? ⟨w9.heap.size, 1, none⟩ = some (.int .i64 (s.built : Nat)) := hnow11.cell (by omega)
                    have d2 : w11.cell? ⟨w9.heap.size, 2, none⟩ = some (.int .i64 (s.flushes : Nat)) := hnow11.cell (by omega)
                    have d3 : w11.cell? ⟨w9.heap.size, 3, none⟩ = some (.int .i64 (s.worked : Nat)) := hnow11.cell (by omega)
                    have r1 : w11.cell? ⟨wr.heap.size, 1, none⟩ = some (.int .i64 A) := hop11.cell (by omega)
                    have t0 : w11.cell? ⟨w5.heap.size, 0, none⟩ = some (.int .i64 (s.used : Nat)) := hsb11.cell (by omega)
                    have t1 : w11.cell? ⟨w5.heap.size, 1, none⟩ = some (.int .i64 (s.built : Nat)) := hsb11.cell (by omega)
                    have t2 : w11.cell? ⟨w5.heap.size, 2, none⟩ = some (.int .i64 (s.flushes : Nat)) := hsb11.cell (by omega)
                    have t3 : w11.cell? ⟨w5.heap.size, 3, none⟩ = some (.int .i64 (s.worked : Nat)) := hsb11.cell (by omega)
                    have z11 := hsb11.frozen
                    have hl11a := hwas11.lt
                    have hl11b := hnow11.lt
                    have f12 := (Fr.refl (fun b => b = w5.heap.size) w11).gset (b' := w5.heap.size) (fun _ => rfl) s.used s.built s.flushes s.worked
                    have hsb12 := hsb11.gset s.used s.built s.flushes s.worked
                    clear a0 a1 a2 a3 b0 b1 b2 b3 q1
                    have HT : Hid _ := HIB.out.err (A := A) fw8 hL8 ((f9A.trans f10 (fun _ _ h => h)).trans f11 (fun _ _ h => h)) f12 hsb12
                    clear hI HIB hL8 hL7 hcW hlA hcA hL1
                    go_wp2_with fail
                    refine (check_any HT.out.q.law.dv).mono ?_
                    rintro e wc ⟨rfl, fc⟩
                    have HC : Hid _ := HT.out.frame fc
                    clear HT
                    go_wp2_with fail
                    refine (look_any HC.out.q.law.dv.mach).mono ?_
                    rintro e wl ⟨rfl, fl⟩
                    unfold gV
                    have HL : Hid _ := HC.out.frame fl
                    clear HC
                    have z0 : wl.cell? ⟨w5.heap.size, 0, none⟩ = some (.int .i64 (s.used : Nat)) := HL.out.sb_.cell (by omega)
                    have z1 : wl.cell? ⟨w5.heap.size, 1, none⟩ = some (.int .i64 (s.built : Nat)) := HL.out.sb_.cell (by omega)
                    have z2 : wl.cell? ⟨w5.heap.size, 2, none⟩ = some (.int .i64 (s.flushes : Nat)) := HL.out.sb_.cell (by omega)
                    have z3 : wl.cell? ⟨w5.heap.size, 3, none⟩ = some (.int .i64 (s.worked : Nat)) := HL.out.sb_.cell (by omega)
                    have zlt := HL.out.sb_.lt
                    go_wp2_with fail
                    refine (bounded_any s.used s.built s.flushes s.worked HL.out.q.law.dv.inv.used HL.out.q.law.dv.bu _).mono ?_
                    rintro e wm ⟨rfl, fm⟩
                    have HM : Hid _ := (HL.out.frame ((Fr.refl (fun _ => False) wl).alloc (.cells #[.int .i64 s.used, .int .i64 s.built, .int .i64 s.flushes, .int .i64 s.worked] 38))).frame fm
                    clear HL
                    go_wp2_with fail
                    go_roundg (gk - 1)
                    case measure => omega
                    case rel => exact ⟨k + 1, _, _, _, _, _, _, _, _, rfl, rfl, rfl, by simp, by omega, by omega, HM.out⟩
            · as_aux_lemma =>
                obtain ⟨hsz, hok, nA, rfl, hnA⟩ := dErr_ok he
                have hg8 := HIB.out.q.gb_.frame fw8 (by unfold mOwn; omega)
                rw [he]
                go_wp2_with fail
                refine (room_any str nA hnA hsz _).mono ?_
                rintro e w8b ⟨rfl, rfl⟩
                go_wp2_with fail
                refine (kinds_any str nA hnA hsz _).mono ?_
                rintro e w9b ⟨rfl, f9b⟩
                have hg9 := hg8.frame f9b (by simp)
                have v1 : w9b.cell? ⟨w2.heap.size, 1, none⟩ = some (.int .i64 gh.room) := hg9.cell (by omega)
                have v4 : w9b.cell? ⟨w2.heap.size, 4, none⟩ = some (.int .i64 gh.most) := hg9.cell (by omega)
                have z9 := hg9.frozen
                have hgl9 := hg9.lt
                have key := HIB.out.q.go0 fw8 hL8 ag (by omega) f9b
                have hrb : gh.room + (str.size - nA + 1) < 4000000000000000 := by have := hI.q.rm; have := Hk42.out; omega
                have hmb : gh.most + (str.size - nA + 1) + 1 < 4000000000000000 := by have := hI.q.ms; have := Hk42.out; omega
                have e1 : ((gh.room + (str.size - nA + 1) : Nat) : Int) = (gh.room : Int) + (((str.size - nA : Nat) : Int) + 1) := by omega
                have e2 : ((gh.most + (str.size - nA + 1) + 1 : Nat) : Int) = (gh.most : Int) + (((str.size - nA : Nat) : Int) + 1) + 1 := by omega
                rw [Int.toNat_natCast, e1, e2] at key
                clear e1 e2
                have Hkey : Hid _ := key
                clear key
                have hMa := Hkey.out.law.dv.mach
                have hcW := Hkey.out.law.code
                have f9c := ((Fr.refl (fun b => b = w2.heap.size) w9b).setC w2.heap.size 1 (.int .i64 ((gh.room : Int) + (((str.size - nA : Nat) : Int) + 1))) (fun _ => rfl)).setC w2.heap.size 4 (.int .i64 ((gh.most : Int) + (((str.size - nA : Nat) : Int) + 1) + 1)) (fun _ => rfl)
                have fW := ((fw8.mono (S' := fun b => b ≤ w2.heap.size + 1) (fun b _ h => by unfold mOwn at h; omega)).trans f9b (fun _ _ h => h.elim)).trans f9c (fun b _ h => by omega)
                have Hag : Hid _ := ag
                have Hb : Hid _ := And.intro hrb hmb
                go_wp2_with fail
                clear ag hrb hmb
                refine (look_any hMa).mono ?_
                rintro e w9 ⟨rfl, f9⟩
                unfold gV
                have f9A := f9.alloc (.cells #[.int .i64 s'.used, .int .i64 s'.built, .int .i64 s'.flushes, .int .i64 s'.worked] 38)
                have fWA := fW.trans f9A (fun _ _ h => h.elim)
                have hcA := hcW.frame f9A (fun _ _ _ _ h => h)
                have hlA := (hI.last.frame fB (fun _ _ _ _ h => h)).frame fWA (fun b n c e h => by have := (hI.lvb b n c e).1; omega)
                have hnow9 := Blk.g w9 s'.used s'.built s'.flushes s'.worked
                have hwas9 := hwasB.frame fWA (by omega)
                have hop9 := hopB.frame fWA (by omega)
                have hsb9 := (HIB.out.sb_).frame fWA (by omega)
                have hn9 : wr.heap.size + 1 < w9.heap.size := by have := (hwasB.frame (fW.trans f9 (fun _ _ h => h.elim)) (by omega)).lt; omega
                clear f7 hm7 hop7 x1 x2 hop6 hwas6 f6B y1
                go_wp2_with fail
                refine (sameProg_any hcA.sl hlA.sl hI.q.law.dv.kv.len).mono ?_
                rintro e w10 ⟨rfl, f10⟩
                have hnow10 := hnow9.frame f10 (by simp)
                have hwas10 := hwas9.frame f10 (by simp)
                have hop10 := hop9.frame f10 (by simp)
                have hsb10 := hsb9.frame f10 (by simp)
                have a0 : w10.cell? ⟨wr.heap.size + 1, 0, none⟩ = some (.int .i64 (s.used : Nat)) := hwas10.cell (by omega)
                have a1 : w10.cell? ⟨wr.heap.size + 1, 1, none⟩ = some (.int .i64 (s.built : Nat)) := hwas10.cell (by omega)
                have a2 : w10.cell? ⟨wr.heap.size + 1, 2, none⟩ = some (.int .i64 (s.flushes : Nat)) := hwas10.cell (by omega)
                have a3 : w10.cell? ⟨wr.heap.size + 1, 3, none⟩ = some (.int .i64 (s.worked : Nat)) := hwas10.cell (by omega)
                have b0 : w10.cell? ⟨w9.heap.size, 0, none⟩ = some (.int .i64 (s'.used : Nat)) := hnow10.cell (by omega)
                have b1 : w10.cell? ⟨w9.heap.size, 1, none⟩ = some (.int .i64 (s'.built : Nat)) := hnow10.cell (by omega)
                have b2 : w10.cell? ⟨w9.heap.size, 2, none⟩ = some (.int .i64 (s'.flushes : Nat)) := hnow10.cell (by omega)
                have b3 : w10.cell? ⟨w9.heap.size, 3, none⟩ = some (.int .i64 (s'.worked : Nat)) := hnow10.cell (by omega)
                have q1 : w10.cell? ⟨wr.heap.size, 1, none⟩ = some (.int .i64 nA) := hop10.cell (by omega)
                have hl10a := hwas10.lt
                have hl10b := hnow10.lt
                cases tw
                · obtain ⟨d, db, tl, M, hH⟩ := AnyG.held (tw := false) (by have := Hag.out; rwa [Int.toNat_natCast] at this) hI.q.law.dv.inv hsz hI.q.law.dv.wk hI.q.law.dv.bu (fun e => by cases e)
                  have HH : Hid _ := hH
                  clear hH
                  go_wp2_with fail
                  refine (held_ok HH.out _).mono ?_
                  rintro e w11 ⟨rfl, f11⟩
                  have hnow11 := hnow10.frame f11 (by simp)
                  have hwas11 := hwas10.frame f11 (by simp)
                  have hop11 := hop10.frame f11 (by simp)
                  have hsb11 := hsb10.frame f11 (by simp)
                  have c0 : w11.cell? ⟨wr.heap.size + 1, 0, none⟩ = some (.int .i64 (s.used : Nat)) := hwas11.cell (by omega)
                  have c1 : w11.cell? ⟨wr.heap.size + 1, 1, none⟩ = some (.int .i64 (s.built : Nat)) := hwas11.cell (by omega)
                  have c2 : w11.cell? ⟨wr.heap.size + 1, 2, none⟩ = some (.int .i64 (s.flushes : Nat)) := hwas11.cell (by omega)
                  have c3 : w11.cell? ⟨wr.heap.size + 1, 3, none⟩ = some (.int .i64 (s.worked : Nat)) := hwas11.cell (by omega)
                  have d0 : w11.cell? ⟨w9.heap.size, 0, none⟩ = some (.int .i64 (s'.used : Nat)) := hnow11.cell (by omega)
                  have d1 : w11.cell? ⟨w9.heap.size, 1, none⟩ = some (.int .i64 (s'.built : Nat)) := hnow11.cell (by omega)
                  have d2 : w11.cell? ⟨w9.heap.size, 2, none⟩ = some (.int .i64 (s'.flushes : Nat)) := hnow11.cell (by omega)
                  have d3 : w11.cell? ⟨w9.heap.size, 3, none⟩ = some (.int .i64 (s'.worked : Nat)) := hnow11.cell (by omega)
                  have r1 : w11.cell? ⟨wr.heap.size, 1, none⟩ = some (.int .i64 nA) := hop11.cell (by omega)
                  have t0 : w11.cell? ⟨w5.heap.size, 0, none⟩ = some (.int .i64 (s.used : Nat)) := hsb11.cell (by omega)
                  have t1 : w11.cell? ⟨w5.heap.size, 1, none⟩ = some (.int .i64 (s.built : Nat)) := hsb11.cell (by omega)
                  have t2 : w11.cell? ⟨w5.heap.size, 2, none⟩ = some (.int .i64 (s.flushes : Nat)) := hsb11.cell (by omega)
                  have t3 : w11.cell? ⟨w5.heap.size, 3, none⟩ = some (.int .i64 (s.worked : Nat)) := hsb11.cell (by omega)
                  have z11 := hsb11.frozen
                  have hl11a := hwas11.lt
                  have hl11b := hnow11.lt
                  have f12 := (Fr.refl (fun b => b = w5.heap.size) w11).gset (b' := w5.heap.size) (fun _ => rfl) s'.used s'.built s'.flushes s'.worked
                  have hsb12 := hsb11.gset s'.used s'.built s'.flushes s'.worked
                  clear a0 a1 a2 a3 b0 b1 b2 b3 q1
                  have HQ12 : Hid _ := (((Hkey.out.frame f9A).frame f10).frame f11).stamp hsb11 hI.lay hI.pvb f12
                  clear hcW hlA hcA hL1 hL7
                  go_wp2_with fail
                  refine (copyProg_any HQ12.out.law.code hplen).mono ?_
                  rintro e w13 ⟨rfl, f13, _, hc13⟩
                  have HT : Hid _ := HIB.out.ok (A := (nA : Int)) (tw' := ((s'.flushes : Int) == (s.flushes : Int))) HQ12.out hsb12 f13 hc13 (fun e => ⟨he, by rw [Int.toNat_natCast]; exact Hag.out.cv (by have e' : (s'.flushes : Int) = s.flushes := (by simpa using e); omega)⟩)
                  simp only [World.size_setCell] at HT
                  clear hI HIB HQ12 Hkey hL8 Hag
                  go_wp2_with fail
                  refine (check_any HT.out.q.law.dv).mono ?_
                  rintro e wc ⟨rfl, fc⟩
                  have HC : Hid _ := HT.out.frame fc
                  clear HT
                  go_wp2_with fail
                  refine (look_any HC.out.q.law.dv.mach).mono ?_
                  rintro e wl ⟨rfl, fl⟩
                  unfold gV
                  have HL : Hid _ := HC.out.frame fl
                  clear HC
                  have z0 : wl.cell? ⟨w5.heap.size, 0, none⟩ = some (.int .i64 (s'.used : Nat)) := HL.out.sb_.cell (by omega)
                  have z1 : wl.cell? ⟨w5.heap.size, 1, none⟩ = some (.int .i64 (s'.built : Nat)) := HL.out.sb_.cell (by omega)
                  have z2 : wl.cell? ⟨w5.heap.size, 2, none⟩ = some (.int .i64 (s'.flushes : Nat)) := HL.out.sb_.cell (by omega)
                  have z3 : wl.cell? ⟨w5.heap.size, 3, none⟩ = some (.int .i64 (s'.worked : Nat)) := HL.out.sb_.cell (by omega)
                  have zlt := HL.out.sb_.lt
                  go_wp2_with fail
                  refine (bounded_any s'.used s'.built s'.flushes s'.worked HL.out.q.law.dv.inv.used HL.out.q.law.dv.bu _).mono ?_
                  rintro e wm ⟨rfl, fm⟩
                  have HM : Hid _ := (HL.out.frame ((Fr.refl (fun _ => False) wl).alloc (.cells #[.int .i64 s'.used, .int .i64 s'.built, .int .i64 s'.flushes, .int .i64 s'.worked] 38))).frame fm
                  clear HL
                  go_wp2_with fail
                  go_roundg (gk - 1)
                  case measure => omega
                  case rel => exact ⟨k + 1, _, _, _, _, _, _, _, _, rfl, rfl, rfl, by simp, by omega, by omega, HM.out⟩
                · by_cases hA : (nA : Int) = A0
                  · have tA : (A0 == (nA : Int)) = true := by rw [hA]; exact beq_self_eq_true _
                    have HA : Hid _ := hA
                    clear hA
                    obtain ⟨d, db, tl, M, hH⟩ := AnyG.held (tw := true) (by have := Hag.out; rwa [Int.toNat_natCast] at this) hI.q.law.dv.inv hsz hI.q.law.dv.wk hI.q.law.dv.bu (fun _ => ⟨(sameP_iff _ _).2 (hI.twin rfl).2.1, by have := (hI.twin rfl).2.2; rwa [← HA.out, Int.toNat_natCast] at this⟩)
                    have HH : Hid _ := hH
                    clear hH
                    go_wp2_with fail
                    refine (held_ok HH.out _).mono ?_
                    rintro e w11 ⟨rfl, f11⟩
                    have hnow11 := hnow10.frame f11 (by simp)
                    have hwas11 := hwas10.frame f11 (by simp)
                    have hop11 := hop10.frame f11 (by simp)
                    have hsb11 := hsb10.frame f11 (by simp)
                    have c0 : w11.cell? ⟨wr.heap.size + 1, 0, none⟩ = some (.int .i64 (s.used : Nat)) := hwas11.cell (by omega)
                    have c1 : w11.cell? ⟨wr.heap.size + 1, 1, none⟩ = some (.int .i64 (s.built : Nat)) := hwas11.cell (by omega)
                    have c2 : w11.cell? ⟨wr.heap.size + 1, 2, none⟩ = some (.int .i64 (s.flushes : Nat)) := hwas11.cell (by omega)
                    have c3 : w11.cell? ⟨wr.heap.size + 1, 3, none⟩ = some (.int .i64 (s.worked : Nat)) := hwas11.cell (by omega)
                    have d0 : w11.cell? ⟨w9.heap.size, 0, none⟩ = some (.int .i64 (s'.used : Nat)) := hnow11.cell (by omega)
                    have d1 : w11.cell? ⟨w9.heap.size, 1, none⟩ = some (.int .i64 (s'.built : Nat)) := hnow11.cell (by omega)
                    have d2 : w11.cell? ⟨w9.heap.size, 2, none⟩ = some (.int .i64 (s'.flushes : Nat)) := hnow11.cell (by omega)
                    have d3 : w11.cell? ⟨w9.heap.size, 3, none⟩ = some (.int .i64 (s'.worked : Nat)) := hnow11.cell (by omega)
                    have r1 : w11.cell? ⟨wr.heap.size, 1, none⟩ = some (.int .i64 nA) := hop11.cell (by omega)
                    have t0 : w11.cell? ⟨w5.heap.size, 0, none⟩ = some (.int .i64 (s.used : Nat)) := hsb11.cell (by omega)
                    have t1 : w11.cell? ⟨w5.heap.size, 1, none⟩ = some (.int .i64 (s.built : Nat)) := hsb11.cell (by omega)
                    have t2 : w11.cell? ⟨w5.heap.size, 2, none⟩ = some (.int .i64 (s.flushes : Nat)) := hsb11.cell (by omega)
                    have t3 : w11.cell? ⟨w5.heap.size, 3, none⟩ = some (.int .i64 (s.worked : Nat)) := hsb11.cell (by omega)
                    have z11 := hsb11.frozen
                    have hl11a := hwas11.lt
                    have hl11b := hnow11.lt
                    have f12 := (Fr.refl (fun b => b = w5.heap.size) w11).gset (b' := w5.heap.size) (fun _ => rfl) s'.used s'.built s'.flushes s'.worked
                    have hsb12 := hsb11.gset s'.used s'.built s'.flushes s'.worked
                    clear a0 a1 a2 a3 b0 b1 b2 b3 q1
                    have HQ12 : Hid _ := (((Hkey.out.frame f9A).frame f10).frame f11).stamp hsb11 hI.lay hI.pvb f12
                    clear hcW hlA hcA hL1 hL7
                    go_wp2_with fail
                    refine (copyProg_any HQ12.out.law.code hplen).mono ?_
                    rintro e w13 ⟨rfl, f13, _, hc13⟩
                    have HT : Hid _ := HIB.out.ok (A := (nA : Int)) (tw' := ((s'.flushes : Int) == (s.flushes : Int))) HQ12.out hsb12 f13 hc13 (fun e => ⟨he, by rw [Int.toNat_natCast]; exact Hag.out.cv (by have e' : (s'.flushes : Int) = s.flushes := (by simpa using e); omega)⟩)
                    simp only [World.size_setCell] at HT
                    clear hI HIB HQ12 Hkey hL8 Hag
                    go_wp2_with fail
                    refine (check_any HT.out.q.law.dv).mono ?_
                    rintro e wc ⟨rfl, fc⟩
                    have HC : Hid _ := HT.out.frame fc
                    clear HT
                    go_wp2_with fail
                    refine (look_any HC.out.q.law.dv.mach).mono ?_
                    rintro e wl ⟨rfl, fl⟩
                    unfold gV
                    have HL : Hid _ := HC.out.frame fl
                    clear HC
                    have z0 : wl.cell? ⟨w5.heap.size, 0, none⟩ = some (.int .i64 (s'.used : Nat)) := HL.out.sb_.cell (by omega)
                    have z1 : wl.cell? ⟨w5.heap.size, 1, none⟩ = some (.int .i64 (s'.built : Nat)) := HL.out.sb_.cell (by omega)
                    have z2 : wl.cell? ⟨w5.heap.size, 2, none⟩ = some (.int .i64 (s'.flushes : Nat)) := HL.out.sb_.cell (by omega)
                    have z3 : wl.cell? ⟨w5.heap.size, 3, none⟩ = some (.int .i64 (s'.worked : Nat)) := HL.out.sb_.cell (by omega)
                    have zlt := HL.out.sb_.lt
                    go_wp2_with fail
                    refine (bounded_any s'.used s'.built s'.flushes s'.worked HL.out.q.law.dv.inv.used HL.out.q.law.dv.bu _).mono ?_
                    rintro e wm ⟨rfl, fm⟩
                    have HM : Hid _ := (HL.out.frame ((Fr.refl (fun _ => False) wl).alloc (.cells #[.int .i64 s'.used, .int .i64 s'.built, .int .i64 s'.flushes, .int .i64 s'.worked] 38))).frame fm
                    clear HL
                    go_wp2_with fail
                    go_roundg (gk - 1)
                    case measure => omega
                    case rel => exact ⟨k + 1, _, _, _, _, _, _, _, _, rfl, rfl, rfl, by simp, by omega, by omega, HM.out⟩
                  · have tA : (A0 == (nA : Int)) = false := by simpa using fun e => hA e.symm
                    obtain ⟨d, db, tl, M, hH⟩ := AnyG.held (tw := false) (by have := Hag.out; rwa [Int.toNat_natCast] at this) hI.q.law.dv.inv hsz hI.q.law.dv.wk hI.q.law.dv.bu (fun e => by cases e)
                    have HH : Hid _ := hH
                    clear hH
                    go_wp2_with fail
                    refine (held_ok HH.out _).mono ?_
                    rintro e w11 ⟨rfl, f11⟩
                    have hnow11 := hnow10.frame f11 (by simp)
                    have hwas11 := hwas10.frame f11 (by simp)
                    have hop11 := hop10.frame f11 (by simp)
                    have hsb11 := hsb10.frame f11 (by simp)
                    have c0 : w11.cell? ⟨wr.heap.size + 1, 0, none⟩ = some (.int .i64 (s.used : Nat)) := hwas11.cell (by omega)
                    have c1 : w11.cell? ⟨wr.heap.size + 1, 1, none⟩ = some (.int .i64 (s.built : Nat)) := hwas11.cell (by omega)
                    have c2 : w11.cell? ⟨wr.heap.size + 1, 2, none⟩ = some (.int .i64 (s.flushes : Nat)) := hwas11.cell (by omega)
                    have c3 : w11.cell? ⟨wr.heap.size + 1, 3, none⟩ = some (.int .i64 (s.worked : Nat)) := hwas11.cell (by omega)
                    have d0 : w11.cell? ⟨w9.heap.size, 0, none⟩ = some (.int .i64 (s'.used : Nat)) := hnow11.cell (by omega)
                    have d1 : w11.cell? ⟨w9.heap.size, 1, none⟩ = some (.int .i64 (s'.built : Nat)) := hnow11.cell (by omega)
                    have d2 : w11.cell? ⟨w9.heap.size, 2, none⟩ = some (.int .i64 (s'.flushes : Nat)) := hnow11.cell (by omega)
                    have d3 : w11.cell? ⟨w9.heap.size, 3, none⟩ = some (.int .i64 (s'.worked : Nat)) := hnow11.cell (by omega)
                    have r1 : w11.cell? ⟨wr.heap.size, 1, none⟩ = some (.int .i64 nA) := hop11.cell (by omega)
                    have t0 : w11.cell? ⟨w5.heap.size, 0, none⟩ = some (.int .i64 (s.used : Nat)) := hsb11.cell (by omega)
                    have t1 : w11.cell? ⟨w5.heap.size, 1, none⟩ = some (.int .i64 (s.built : Nat)) := hsb11.cell (by omega)
                    have t2 : w11.cell? ⟨w5.heap.size, 2, none⟩ = some (.int .i64 (s.flushes : Nat)) := hsb11.cell (by omega)
                    have t3 : w11.cell? ⟨w5.heap.size, 3, none⟩ = some (.int .i64 (s.worked : Nat)) := hsb11.cell (by omega)
                    have z11 := hsb11.frozen
                    have hl11a := hwas11.lt
                    have hl11b := hnow11.lt
                    have f12 := (Fr.refl (fun b => b = w5.heap.size) w11).gset (b' := w5.heap.size) (fun _ => rfl) s'.used s'.built s'.flushes s'.worked
                    have hsb12 := hsb11.gset s'.used s'.built s'.flushes s'.worked
                    clear a0 a1 a2 a3 b0 b1 b2 b3 q1
                    have HQ12 : Hid _ := (((Hkey.out.frame f9A).frame f10).frame f11).stamp hsb11 hI.lay hI.pvb f12
                    clear hcW hlA hcA hL1 hL7
                    go_wp2_with fail
                    refine (copyProg_any HQ12.out.law.code hplen).mono ?_
                    rintro e w13 ⟨rfl, f13, _, hc13⟩
                    have HT : Hid _ := HIB.out.ok (A := (nA : Int)) (tw' := ((s'.flushes : Int) == (s.flushes : Int))) HQ12.out hsb12 f13 hc13 (fun e => ⟨he, by rw [Int.toNat_natCast]; exact Hag.out.cv (by have e' : (s'.flushes : Int) = s.flushes := (by simpa using e); omega)⟩)
                    simp only [World.size_setCell] at HT
                    clear hI HIB HQ12 Hkey hL8 Hag
                    go_wp2_with fail
                    refine (check_any HT.out.q.law.dv).mono ?_
                    rintro e wc ⟨rfl, fc⟩
                    have HC : Hid _ := HT.out.frame fc
                    clear HT
                    go_wp2_with fail
                    refine (look_any HC.out.q.law.dv.mach).mono ?_
                    rintro e wl ⟨rfl, fl⟩
                    unfold gV
                    have HL : Hid _ := HC.out.frame fl
                    clear HC
                    have z0 : wl.cell? ⟨w5.heap.size, 0, none⟩ = some (.int .i64 (s'.used : Nat)) := HL.out.sb_.cell (by omega)
                    have z1 : wl.cell? ⟨w5.heap.size, 1, none⟩ = some (.int .i64 (s'.built : Nat)) := HL.out.sb_.cell (by omega)
                    have z2 : wl.cell? ⟨w5.heap.size, 2, none⟩ = some (.int .i64 (s'.flushes : Nat)) := HL.out.sb_.cell (by omega)
                    have z3 : wl.cell? ⟨w5.heap.size, 3, none⟩ = some (.int .i64 (s'.worked : Nat)) := HL.out.sb_.cell (by omega)
                    have zlt := HL.out.sb_.lt
                    go_wp2_with fail
                    refine (bounded_any s'.used s'.built s'.flushes s'.worked HL.out.q.law.dv.inv.used HL.out.q.law.dv.bu _).mono ?_
                    rintro e wm ⟨rfl, fm⟩
                    have HM : Hid _ := (HL.out.frame ((Fr.refl (fun _ => False) wl).alloc (.cells #[.int .i64 s'.used, .int .i64 s'.built, .int .i64 s'.flushes, .int .i64 s'.worked] 38))).frame fm
                    clear HL
                    go_wp2_with fail
                    go_roundg (gk - 1)
                    case measure => omega
                    case rel => exact ⟨k + 1, _, _, _, _, _, _, _, _, rfl, rfl, rfl, by simp, by omega, by omega, HM.out⟩
          · have tB : (B != 0) = true := by simpa using hB
            go_wp2_with fail
            refine (sameAny_desk hL7 hm7 str A (by have := hI.q.b; have := Hk42.out; omega) (by have := hI.q.f; have := Hk42.out; omega) (by have := hI.q.wk; have := Hk42.out; omega)).mono ?_
            rintro e w8 ⟨rfl, fS, hS⟩
            have fw8 : Fr (fun b => mOwn w.heap.size b ∨ b = w1.heap.size ∨ b = w2.heap.size + 1) ((((w6.setCell ⟨wr.heap.size + 1, 0, none⟩ (.int .i64 s.used)).setCell ⟨wr.heap.size + 1, 1, none⟩ (.int .i64 s.built)).setCell ⟨wr.heap.size + 1, 2, none⟩ (.int .i64 s.flushes)).setCell ⟨wr.heap.size + 1, 3, none⟩ (.int .i64 s.worked)) w8 := (f7.mono (fun b _ h => .inr (.inl h))).trans fS (fun _ _ h => h)
            have hop8 := hop7.frame fS (by unfold mOwn; omega)
            have y1 : w8.cell? ⟨wr.heap.size, 1, none⟩ = some (.int .i64 A) := hop8.cell (by omega)
            rcases hS with ⟨hne, hL8⟩ | ⟨he, kv', s', hL8, ag⟩
            · as_aux_lemma =>
                have td : (dErr p str A == 0) = false := by simpa using hne
                have hMa := hL8.dv.mach
                have fW : Fr (fun b => b ≤ w2.heap.size + 1) ((((w6.setCell ⟨wr.heap.size + 1, 0, none⟩ (.int .i64 s.used)).setCell ⟨wr.heap.size + 1, 1, none⟩ (.int .i64 s.built)).setCell ⟨wr.heap.size + 1, 2, none⟩ (.int .i64 s.flushes)).setCell ⟨wr.heap.size + 1, 3, none⟩ (.int .i64 s.worked)) w8 := fw8.mono (fun b _ h => by unfold mOwn at h; omega)
                have hcW := hL8.code
                go_wp2_with fail
                refine (look_any hMa).mono ?_
                rintro e w9 ⟨rfl, f9⟩
                unfold gV
                have f9A := f9.alloc (.cells #[.int .i64 s.used, .int .i64 s.built, .int .i64 s.flushes, .int .i64 s.worked] 38)
                have fWA := fW.trans f9A (fun _ _ h => h.elim)
                have hcA := hcW.frame f9A (fun _ _ _ _ h => h)
                have hlA := (hI.last.frame fB (fun _ _ _ _ h => h)).frame fWA (fun b n c e h => by have := (hI.lvb b n c e).1; omega)
                have hnow9 := Blk.g w9 s.used s.built s.flushes s.worked
                have hwas9 := hwasB.frame fWA (by omega)
                have hop9 := hopB.frame fWA (by omega)
                have hsb9 := (HIB.out.sb_).frame fWA (by omega)
                have hn9 : wr.heap.size + 1 < w9.heap.size := by have := (hwasB.frame (fW.trans f9 (fun _ _ h => h.elim)) (by omega)).lt; omega
                clear f7 hm7 hop7 x1 x2 hop6 hwas6 f6B y1
                go_wp2_with fail
                refine (sameProg_any hcA.sl hlA.sl hI.q.law.dv.kv.len).mono ?_
                rintro e w10 ⟨rfl, f10⟩
                have hnow10 := hnow9.frame f10 (by simp)
                have hwas10 := hwas9.frame f10 (by simp)
                have hop10 := hop9.frame f10 (by simp)
                have hsb10 := hsb9.frame f10 (by simp)
                have a0 : w10.cell? ⟨wr.heap.size + 1, 0, none⟩ = some (.int .i64 (s.used : Nat)) := hwas10.cell (by omega)
                have a1 : w10.cell? ⟨wr.heap.size + 1, 1, none⟩ = some (.int .i64 (s.built : Nat)) := hwas10.cell (by omega)
                have a2 : w10.cell? ⟨wr.heap.size + 1, 2, none⟩ = some (.int .i64 (s.flushes : Nat)) := hwas10.cell (by omega)
                have a3 : w10.cell? ⟨wr.heap.size + 1, 3, none⟩ = some (.int .i64 (s.worked : Nat)) := hwas10.cell (by omega)
                have b0 : w10.cell? ⟨w9.heap.size, 0, none⟩ = some (.int .i64 (s.used : Nat)) := hnow10.cell (by omega)
                have b1 : w10.cell? ⟨w9.heap.size, 1, none⟩ = some (.int .i64 (s.built : Nat)) := hnow10.cell (by omega)
                have b2 : w10.cell? ⟨w9.heap.size, 2, none⟩ = some (.int .i64 (s.flushes : Nat)) := hnow10.cell (by omega)
                have b3 : w10.cell? ⟨w9.heap.size, 3, none⟩ = some (.int .i64 (s.worked : Nat)) := hnow10.cell (by omega)
                have q1 : w10.cell? ⟨wr.heap.size, 1, none⟩ = some (.int .i64 A) := hop10.cell (by omega)
                have hl10a := hwas10.lt
                have hl10b := hnow10.lt
                cases tw
                · go_wp2_with fail
                  refine (held_err hI.q.law.dv.inv.used hI.q.law.dv.bu (dErr p str A) hne 0 0 false (!sameP p K) _).mono ?_
                  rintro e w11 ⟨rfl, f11⟩
                  have hnow11 := hnow10.frame f11 (by simp)
                  have hwas11 := hwas10.frame f11 (by simp)
                  have hop11 := hop10.frame f11 (by simp)
                  have hsb11 := hsb10.frame f11 (by simp)
                  have c0 : w11.cell? ⟨wr.heap.size + 1, 0, none⟩ = some (.int .i64 (s.used : Nat)) := hwas11.cell (by omega)
                  have c1 : w11.cell? ⟨wr.heap.size + 1, 1, none⟩ = some (.int .i64 (s.built : Nat)) := hwas11.cell (by omega)
                  have c2 : w11.cell? ⟨wr.heap.size + 1, 2, none⟩ = some (.int .i64 (s.flushes : Nat)) := hwas11.cell (by omega)
                  have c3 : w11.cell? ⟨wr.heap.size + 1, 3, none⟩ = some (.int .i64 (s.worked : Nat)) := hwas11.cell (by omega)
                  have d0 : w11.cell? ⟨w9.heap.size, 0, none⟩ = some (.int .i64 (s.used : Nat)) := hnow11.cell (by omega)
                  have d1 : w11.cell? ⟨w9.heap.size, 1, none⟩ = some (.int .i64 (s.built : Nat)) := hnow11.cell (by omega)
                  have d2 : w11.cell? ⟨w9.heap.size, 2, none⟩ = some (.int .i64 (s.flushes : Nat)) := hnow11.cell (by omega)
                  have d3 : w11.cell? ⟨w9.heap.size, 3, none⟩ = some (.int .i64 (s.worked : Nat)) := hnow11.cell (by omega)
                  have r1 : w11.cell? ⟨wr.heap.size, 1, none⟩ = some (.int .i64 A) := hop11.cell (by omega)
                  have t0 : w11.cell? ⟨w5.heap.size, 0, none⟩ = some (.int .i64 (s.used : Nat)) := hsb11.cell (by omega)
                  have t1 : w11.cell? ⟨w5.heap.size, 1, none⟩ = some (.int .i64 (s.built : Nat)) := hsb11.cell (by omega)
                  have t2 : w11.cell? ⟨w5.heap.size, 2, none⟩ = some (.int .i64 (s.flushes : Nat)) := hsb11.cell (by omega)
                  have t3 : w11.cell? ⟨w5.heap.size, 3, none⟩ = some (.int .i64 (s.worked : Nat)) := hsb11.cell (by omega)
                  have z11 := hsb11.frozen
                  have hl11a := hwas11.lt
                  have hl11b := hnow11.lt
                  have f12 := (Fr.refl (fun b => b = w5.heap.size) w11).gset (b' := w5.heap.size) (fun _ => rfl) s.used s.built s.flushes s.worked
                  have hsb12 := hsb11.gset s.used s.built s.flushes s.worked
                  clear a0 a1 a2 a3 b0 b1 b2 b3 q1
                  have HT : Hid _ := HIB.out.err (A := A) fw8 hL8 ((f9A.trans f10 (fun _ _ h => h)).trans f11 (fun _ _ h => h)) f12 hsb12
                  clear hI HIB hL8 hL7 hcW hlA hcA hL1
                  go_wp2_with fail
                  refine (check_any HT.out.q.law.dv).mono ?_
                  rintro e wc ⟨rfl, fc⟩
                  have HC : Hid _ := HT.out.frame fc
                  clear HT
                  go_wp2_with fail
                  refine (look_any HC.out.q.law.dv.mach).mono ?_
                  rintro e wl ⟨rfl, fl⟩
                  unfold gV
                  have HL : Hid _ := HC.out.frame fl
                  clear HC
                  have z0 : wl.cell? ⟨w5.heap.size, 0, none⟩ = some (.int .i64 (s.used : Nat)) := HL.out.sb_.cell (by omega)
                  have z1 : wl.cell? ⟨w5.heap.size, 1, none⟩ = some (.int .i64 (s.built : Nat)) := HL.out.sb_.cell (by omega)
                  have z2 : wl.cell? ⟨w5.heap.size, 2, none⟩ = some (.int .i64 (s.flushes : Nat)) := HL.out.sb_.cell (by omega)
                  have z3 : wl.cell? ⟨w5.heap.size, 3, none⟩ = some (.int .i64 (s.worked : Nat)) := HL.out.sb_.cell (by omega)
                  have zlt := HL.out.sb_.lt
                  go_wp2_with fail
                  refine (bounded_any s.used s.built s.flushes s.worked HL.out.q.law.dv.inv.used HL.out.q.law.dv.bu _).mono ?_
                  rintro e wm ⟨rfl, fm⟩
                  have HM : Hid _ := (HL.out.frame ((Fr.refl (fun _ => False) wl).alloc (.cells #[.int .i64 s.used, .int .i64 s.built, .int .i64 s.flushes, .int .i64 s.worked] 38))).frame fm
                  clear HL
                  go_wp2_with fail
                  go_roundg (gk - 1)
                  case measure => omega
                  case rel => exact ⟨k + 1, _, _, _, _, _, _, _, _, rfl, rfl, rfl, by simp, by omega, by omega, HM.out⟩
                · by_cases hA : A = A0
                  · have tA : (A0 == A) = true := by rw [hA]; exact beq_self_eq_true _
                    have HA : Hid _ := hA
                    clear hA
                    go_wp2_with fail
                    refine (held_err hI.q.law.dv.inv.used hI.q.law.dv.bu (dErr p str A) hne 0 0 true (!sameP p K) _).mono ?_
                    rintro e w11 ⟨rfl, f11⟩
                    have hnow11 := hnow10.frame f11 (by simp)
                    have hwas11 := hwas10.frame f11 (by simp)
                    have hop11 := hop10.frame f11 (by simp)
                    have hsb11 := hsb10.frame f11 (by simp)
                    have c0 : w11.cell? ⟨wr.heap.size + 1, 0, none⟩ = some (.int .i64 (s.used : Nat)) := hwas11.cell (by omega)
                    have c1 : w11.cell? ⟨wr.heap.size + 1, 1, none⟩ = some (.int .i64 (s.built : Nat)) := hwas11.cell (by omega)
                    have c2 : w11.cell? ⟨wr.heap.size + 1, 2, none⟩ = some (.int .i64 (s.flushes : Nat)) := hwas11.cell (by omega)
                    have c3 : w11.cell? ⟨wr.heap.size + 1, 3, none⟩ = some (.int .i64 (s.worked : Nat)) := hwas11.cell (by omega)
                    have d0 : w11.cell? ⟨w9.heap.size, 0, none⟩ = some (.int .i64 (s.used : Nat)) := hnow11.cell (by omega)
                    have d1 : w11.cell? ⟨w9.heap.size, 1, none⟩ = some (.int .i64 (s.built : Nat)) := hnow11.cell (by omega)
                    have d2 : w11.cell? ⟨w9.heap.size, 2, none⟩ = some (.int .i64 (s.flushes : Nat)) := hnow11.cell (by omega)
                    have d3 : w11.cell? ⟨w9.heap.size, 3, none⟩ = some (.int .i64 (s.worked : Nat)) := hnow11.cell (by omega)
                    have r1 : w11.cell? ⟨wr.heap.size, 1, none⟩ = some (.int .i64 A) := hop11.cell (by omega)
                    have t0 : w11.cell? ⟨w5.heap.size, 0, none⟩ = some (.int .i64 (s.used : Nat)) := hsb11.cell (by omega)
                    have t1 : w11.cell? ⟨w5.heap.size, 1, none⟩ = some (.int .i64 (s.built : Nat)) := hsb11.cell (by omega)
                    have t2 : w11.cell? ⟨w5.heap.size, 2, none⟩ = some (.int .i64 (s.flushes : Nat)) := hsb11.cell (by omega)
                    have t3 : w11.cell? ⟨w5.heap.size, 3, none⟩ = some (.int .i64 (s.worked : Nat)) := hsb11.cell (by omega)
                    have z11 := hsb11.frozen
                    have hl11a := hwas11.lt
                    have hl11b := hnow11.lt
                    have f12 := (Fr.refl (fun b => b = w5.heap.size) w11).gset (b' := w5.heap.size) (fun _ => rfl) s.used s.built s.flushes s.worked
                    have hsb12 := hsb11.gset s.used s.built s.flushes s.worked
                    clear a0 a1 a2 a3 b0 b1 b2 b3 q1
                    have HT : Hid _ := HIB.out.err (A := A) fw8 hL8 ((f9A.trans f10 (fun _ _ h => h)).trans f11 (fun _ _ h => h)) f12 hsb12
                    clear hI HIB hL8 hL7 hcW hlA hcA hL1
                    go_wp2_with fail
                    refine (check_any HT.out.q.law.dv).mono ?_
                    rintro e wc ⟨rfl, fc⟩
                    have HC : Hid _ := HT.out.frame fc
                    clear HT
                    go_wp2_with fail
                    refine (look_any HC.out.q.law.dv.mach).mono ?_
                    rintro e wl ⟨rfl, fl⟩
                    unfold gV
                    have HL : Hid _ := HC.out.frame fl
                    clear HC
                    have z0 : wl.cell? ⟨w5.heap.size, 0, none⟩ = some (.int .i64 (s.used : Nat)) := HL.out.sb_.cell (by omega)
                    have z1 : wl.cell? ⟨w5.heap.size, 1, none⟩ = some (.int .i64 (s.built : Nat)) := HL.out.sb_.cell (by omega)
                    have z2 : wl.cell? ⟨w5.heap.size, 2, none⟩ = some (.int .i64 (s.flushes : Nat)) := HL.out.sb_.cell (by omega)
                    have z3 : wl.cell? ⟨w5.heap.size, 3, none⟩ = some (.int .i64 (s.worked : Nat)) := HL.out.sb_.cell (by omega)
                    have zlt := HL.out.sb_.lt
                    go_wp2_with fail
                    refine (bounded_any s.used s.built s.flushes s.worked HL.out.q.law.dv.inv.used HL.out.q.law.dv.bu _).mono ?_
                    rintro e wm ⟨rfl, fm⟩
                    have HM : Hid _ := (HL.out.frame ((Fr.refl (fun _ => False) wl).alloc (.cells #[.int .i64 s.used, .int .i64 s.built, .int .i64 s.flushes, .int .i64 s.worked] 38))).frame fm
                    clear HL
                    go_wp2_with fail
                    go_roundg (gk - 1)
                    case measure => omega
                    case rel => exact ⟨k + 1, _, _, _, _, _, _, _, _, rfl, rfl, rfl, by simp, by omega, by omega, HM.out⟩
                  · have tA : (A0 == A) = false := by simpa using fun e => hA e.symm
                    go_wp2_with fail
                    refine (held_err hI.q.law.dv.inv.used hI.q.law.dv.bu (dErr p str A) hne 0 0 false (!sameP p K) _).mono ?_
                    rintro e w11 ⟨rfl, f11⟩
                    have hnow11 := hnow10.frame f11 (by simp)
                    have hwas11 := hwas10.frame f11 (by simp)
                    have hop11 := hop10.frame f11 (by simp)
                    have hsb11 := hsb10.frame f11 (by simp)
                    have c0 : w11.cell? ⟨wr.heap.size + 1, 0, none⟩ = some (.int .i64 (s.used : Nat)) := hwas11.cell (by omega)
                    have c1 : w11.cell? ⟨wr.heap.size + 1, 1, none⟩ = some (.int .i64 (s.built : Nat)) := hwas11.cell (by omega)
                    have c2 : w11.cell? ⟨wr.heap.size + 1, 2, none⟩ = some (.int .i64 (s.flushes : Nat)) := hwas11.cell (by omega)
                    have c3 : w11.cell? ⟨wr.heap.size + 1, 3, none⟩ = some (.int .i64 (s.worked : Nat)) := hwas11.cell (by omega)
                    have d0 : w11.cell? ⟨w9.heap.size, 0, none⟩ = some (.int .i64 (s.used : Nat)) := hnow11.cell (by omega)
                    have d1 : w11.cell? ⟨w9.heap.size, 1, none⟩ = some (.int .i64 (s.built : Nat)) := hnow11.cell (by omega)
                    have d2 : w11.cell? ⟨w9.heap.size, 2, none⟩ = some (.int .i64 (s.flushes : Nat)) := hnow11.cell (by omega)
                    have d3 : w11.cell? ⟨w9.heap.size, 3, none⟩ = some (.int .i64 (s.worked : Nat)) := hnow11.cell (by omega)
                    have r1 : w11.cell? ⟨wr.heap.size, 1, none⟩ = some (.int .i64 A) := hop11.cell (by omega)
                    have t0 : w11.cell? ⟨w5.heap.size, 0, none⟩ = some (.int .i64 (s.used : Nat)) := hsb11.cell (by omega)
                    have t1 : w11.cell? ⟨w5.heap.size, 1, none⟩ = some (.int .i64 (s.built : Nat)) := hsb11.cell (by omega)
                    have t2 : w11.cell? ⟨w5.heap.size, 2, none⟩ = some (.int .i64 (s.flushes : Nat)) := hsb11.cell (by omega)
                    have t3 : w11.cell? ⟨w5.heap.size, 3, none⟩ = some (.int .i64 (s.worked : Nat)) := hsb11.cell (by omega)
                    have z11 := hsb11.frozen
                    have hl11a := hwas11.lt
                    have hl11b := hnow11.lt
                    have f12 := (Fr.refl (fun b => b = w5.heap.size) w11).gset (b' := w5.heap.size) (fun _ => rfl) s.used s.built s.flushes s.worked
                    have hsb12 := hsb11.gset s.used s.built s.flushes s.worked
                    clear a0 a1 a2 a3 b0 b1 b2 b3 q1
                    have HT : Hid _ := HIB.out.err (A := A) fw8 hL8 ((f9A.trans f10 (fun _ _ h => h)).trans f11 (fun _ _ h => h)) f12 hsb12
                    clear hI HIB hL8 hL7 hcW hlA hcA hL1
                    go_wp2_with fail
                    refine (check_any HT.out.q.law.dv).mono ?_
                    rintro e wc ⟨rfl, fc⟩
                    have HC : Hid _ := HT.out.frame fc
                    clear HT
                    go_wp2_with fail
                    refine (look_any HC.out.q.law.dv.mach).mono ?_
                    rintro e wl ⟨rfl, fl⟩
                    unfold gV
                    have HL : Hid _ := HC.out.frame fl
                    clear HC
                    have z0 : wl.cell? ⟨w5.heap.size, 0, none⟩ = some (.int .i64 (s.used : Nat)) := HL.out.sb_.cell (by omega)
                    have z1 : wl.cell? ⟨w5.heap.size, 1, none⟩ = some (.int .i64 (s.built : Nat)) := HL.out.sb_.cell (by omega)
                    have z2 : wl.cell? ⟨w5.heap.size, 2, none⟩ = some (.int .i64 (s.flushes : Nat)) := HL.out.sb_.cell (by omega)
                    have z3 : wl.cell? ⟨w5.heap.size, 3, none⟩ = some (.int .i64 (s.worked : Nat)) := HL.out.sb_.cell (by omega)
                    have zlt := HL.out.sb_.lt
                    go_wp2_with fail
                    refine (bounded_any s.used s.built s.flushes s.worked HL.out.q.law.dv.inv.used HL.out.q.law.dv.bu _).mono ?_
                    rintro e wm ⟨rfl, fm⟩
                    have HM : Hid _ := (HL.out.frame ((Fr.refl (fun _ => False) wl).alloc (.cells #[.int .i64 s.used, .int .i64 s.built, .int .i64 s.flushes, .int .i64 s.worked] 38))).frame fm
                    clear HL
                    go_wp2_with fail
                    go_roundg (gk - 1)
                    case measure => omega
                    case rel => exact ⟨k + 1, _, _, _, _, _, _, _, _, rfl, rfl, rfl, by simp, by omega, by omega, HM.out⟩
            · as_aux_lemma =>
                obtain ⟨hsz, hok, nA, rfl, hnA⟩ := dErr_ok he
                have hg8 := HIB.out.q.gb_.frame fw8 (by unfold mOwn; omega)
                rw [he]
                go_wp2_with fail
                refine (room_any str nA hnA hsz _).mono ?_
                rintro e w8b ⟨rfl, rfl⟩
                go_wp2_with fail
                refine (kinds_any str nA hnA hsz _).mono ?_
                rintro e w9b ⟨rfl, f9b⟩
                have hg9 := hg8.frame f9b (by simp)
                have v1 : w9b.cell? ⟨w2.heap.size, 1, none⟩ = some (.int .i64 gh.room) := hg9.cell (by omega)
                have v4 : w9b.cell? ⟨w2.heap.size, 4, none⟩ = some (.int .i64 gh.most) := hg9.cell (by omega)
                have z9 := hg9.frozen
                have hgl9 := hg9.lt
                have key := HIB.out.q.go0 fw8 hL8 ag (by omega) f9b
                have hrb : gh.room + (str.size - nA + 1) < 4000000000000000 := by have := hI.q.rm; have := Hk42.out; omega
                have hmb : gh.most + (str.size - nA + 1) + 1 < 4000000000000000 := by have := hI.q.ms; have := Hk42.out; omega
                have e1 : ((gh.room + (str.size - nA + 1) : Nat) : Int) = (gh.room : Int) + (((str.size - nA : Nat) : Int) + 1) := by omega
                have e2 : ((gh.most + (str.size - nA + 1) + 1 : Nat) : Int) = (gh.most : Int) + (((str.size - nA : Nat) : Int) + 1) + 1 := by omega
                rw [Int.toNat_natCast, e1, e2] at key
                clear e1 e2
                have Hkey : Hid _ := key
                clear key
                have hMa := Hkey.out.law.dv.mach
                have hcW := Hkey.out.law.code
                have f9c := ((Fr.refl (fun b => b = w2.heap.size) w9b).setC w2.heap.size 1 (.int .i64 ((gh.room : Int) + (((str.size - nA : Nat) : Int) + 1))) (fun _ => rfl)).setC w2.heap.size 4 (.int .i64 ((gh.most : Int) + (((str.size - nA : Nat) : Int) + 1) + 1)) (fun _ => rfl)
                have fW := ((fw8.mono (S' := fun b => b ≤ w2.heap.size + 1) (fun b _ h => by unfold mOwn at h; omega)).trans f9b (fun _ _ h => h.elim)).trans f9c (fun b _ h => by omega)
                have Hag : Hid _ := ag
                have Hb : Hid _ := And.intro hrb hmb
                go_wp2_with fail
                clear ag hrb hmb
                refine (look_any hMa).mono ?_
                rintro e w9 ⟨rfl, f9⟩
                unfold gV
                have f9A := f9.alloc (.cells #[.int .i64 s'.used, .int .i64 s'.built, .int .i64 s'.flushes, .int .i64 s'.worked] 38)
                have fWA := fW.trans f9A (fun _ _ h => h.elim)
                have hcA := hcW.frame f9A (fun _ _ _ _ h => h)
                have hlA := (hI.last.frame fB (fun _ _ _ _ h => h)).frame fWA (fun b n c e h => by have := (hI.lvb b n c e).1; omega)
                have hnow9 := Blk.g w9 s'.used s'.built s'.flushes s'.worked
                have hwas9 := hwasB.frame fWA (by omega)
                have hop9 := hopB.frame fWA (by omega)
                have hsb9 := (HIB.out.sb_).frame fWA (by omega)
                have hn9 : wr.heap.size + 1 < w9.heap.size := by have := (hwasB.frame (fW.trans f9 (fun _ _ h => h.elim)) (by omega)).lt; omega
                clear f7 hm7 hop7 x1 x2 hop6 hwas6 f6B y1
                go_wp2_with fail
                refine (sameProg_any hcA.sl hlA.sl hI.q.law.dv.kv.len).mono ?_
                rintro e w10 ⟨rfl, f10⟩
                have hnow10 := hnow9.frame f10 (by simp)
                have hwas10 := hwas9.frame f10 (by simp)
                have hop10 := hop9.frame f10 (by simp)
                have hsb10 := hsb9.frame f10 (by simp)
                have a0 : w10.cell? ⟨wr.heap.size + 1, 0, none⟩ = some (.int .i64 (s.used : Nat)) := hwas10.cell (by omega)
                have a1 : w10.cell? ⟨wr.heap.size + 1, 1, none⟩ = some (.int .i64 (s.built : Nat)) := hwas10.cell (by omega)
                have a2 : w10.cell? ⟨wr.heap.size + 1, 2, none⟩ = some (.int .i64 (s.flushes : Nat)) := hwas10.cell (by omega)
                have a3 : w10.cell? ⟨wr.heap.size + 1, 3, none⟩ = some (.int .i64 (s.worked : Nat)) := hwas10.cell (by omega)
                have b0 : w10.cell? ⟨w9.heap.size, 0, none⟩ = some (.int .i64 (s'.used : Nat)) := hnow10.cell (by omega)
                have b1 : w10.cell? ⟨w9.heap.size, 1, none⟩ = some (.int .i64 (s'.built : Nat)) := hnow10.cell (by omega)
                have b2 : w10.cell? ⟨w9.heap.size, 2, none⟩ = some (.int .i64 (s'.flushes : Nat)) := hnow10.cell (by omega)
                have b3 : w10.cell? ⟨w9.heap.size, 3, none⟩ = some (.int .i64 (s'.worked : Nat)) := hnow10.cell (by omega)
                have q1 : w10.cell? ⟨wr.heap.size, 1, none⟩ = some (.int .i64 nA) := hop10.cell (by omega)
                have hl10a := hwas10.lt
                have hl10b := hnow10.lt
                cases tw
                · obtain ⟨d, db, tl, M, hH⟩ := AnyG.held (tw := false) (by have := Hag.out; rwa [Int.toNat_natCast] at this) hI.q.law.dv.inv hsz hI.q.law.dv.wk hI.q.law.dv.bu (fun e => by cases e)
                  have HH : Hid _ := hH
                  clear hH
                  go_wp2_with fail
                  refine (held_ok HH.out _).mono ?_
                  rintro e w11 ⟨rfl, f11⟩
                  have hnow11 := hnow10.frame f11 (by simp)
                  have hwas11 := hwas10.frame f11 (by simp)
                  have hop11 := hop10.frame f11 (by simp)
                  have hsb11 := hsb10.frame f11 (by simp)
                  have c0 : w11.cell? ⟨wr.heap.size + 1, 0, none⟩ = some (.int .i64 (s.used : Nat)) := hwas11.cell (by omega)
                  have c1 : w11.cell? ⟨wr.heap.size + 1, 1, none⟩ = some (.int .i64 (s.built : Nat)) := hwas11.cell (by omega)
                  have c2 : w11.cell? ⟨wr.heap.size + 1, 2, none⟩ = some (.int .i64 (s.flushes : Nat)) := hwas11.cell (by omega)
                  have c3 : w11.cell? ⟨wr.heap.size + 1, 3, none⟩ = some (.int .i64 (s.worked : Nat)) := hwas11.cell (by omega)
                  have d0 : w11.cell? ⟨w9.heap.size, 0, none⟩ = some (.int .i64 (s'.used : Nat)) := hnow11.cell (by omega)
                  have d1 : w11.cell? ⟨w9.heap.size, 1, none⟩ = some (.int .i64 (s'.built : Nat)) := hnow11.cell (by omega)
                  have d2 : w11.cell? ⟨w9.heap.size, 2, none⟩ = some (.int .i64 (s'.flushes : Nat)) := hnow11.cell (by omega)
                  have d3 : w11.cell? ⟨w9.heap.size, 3, none⟩ = some (.int .i64 (s'.worked : Nat)) := hnow11.cell (by omega)
                  have r1 : w11.cell? ⟨wr.heap.size, 1, none⟩ = some (.int .i64 nA) := hop11.cell (by omega)
                  have t0 : w11.cell? ⟨w5.heap.size, 0, none⟩ = some (.int .i64 (s.used : Nat)) := hsb11.cell (by omega)
                  have t1 : w11.cell? ⟨w5.heap.size, 1, none⟩ = some (.int .i64 (s.built : Nat)) := hsb11.cell (by omega)
                  have t2 : w11.cell? ⟨w5.heap.size, 2, none⟩ = some (.int .i64 (s.flushes : Nat)) := hsb11.cell (by omega)
                  have t3 : w11.cell? ⟨w5.heap.size, 3, none⟩ = some (.int .i64 (s.worked : Nat)) := hsb11.cell (by omega)
                  have z11 := hsb11.frozen
                  have hl11a := hwas11.lt
                  have hl11b := hnow11.lt
                  have f12 := (Fr.refl (fun b => b = w5.heap.size) w11).gset (b' := w5.heap.size) (fun _ => rfl) s'.used s'.built s'.flushes s'.worked
                  have hsb12 := hsb11.gset s'.used s'.built s'.flushes s'.worked
                  clear a0 a1 a2 a3 b0 b1 b2 b3 q1
                  have HQ12 : Hid _ := (((Hkey.out.frame f9A).frame f10).frame f11).stamp hsb11 hI.lay hI.pvb f12
                  clear hcW hlA hcA hL1 hL7
                  go_wp2_with fail
                  refine (copyProg_any HQ12.out.law.code hplen).mono ?_
                  rintro e w13 ⟨rfl, f13, _, hc13⟩
                  have HT : Hid _ := HIB.out.ok (A := (nA : Int)) (tw' := ((s'.flushes : Int) == (s.flushes : Int))) HQ12.out hsb12 f13 hc13 (fun e => ⟨he, by rw [Int.toNat_natCast]; exact Hag.out.cv (by have e' : (s'.flushes : Int) = s.flushes := (by simpa using e); omega)⟩)
                  simp only [World.size_setCell] at HT
                  clear hI HIB HQ12 Hkey hL8 Hag
                  go_wp2_with fail
                  refine (check_any HT.out.q.law.dv).mono ?_
                  rintro e wc ⟨rfl, fc⟩
                  have HC : Hid _ := HT.out.frame fc
                  clear HT
                  go_wp2_with fail
                  refine (look_any HC.out.q.law.dv.mach).mono ?_
                  rintro e wl ⟨rfl, fl⟩
                  unfold gV
                  have HL : Hid _ := HC.out.frame fl
                  clear HC
                  have z0 : wl.cell? ⟨w5.heap.size, 0, none⟩ = some (.int .i64 (s'.used : Nat)) := HL.out.sb_.cell (by omega)
                  have z1 : wl.cell? ⟨w5.heap.size, 1, none⟩ = some (.int .i64 (s'.built : Nat)) := HL.out.sb_.cell (by omega)
                  have z2 : wl.cell? ⟨w5.heap.size, 2, none⟩ = some (.int .i64 (s'.flushes : Nat)) := HL.out.sb_.cell (by omega)
                  have z3 : wl.cell? ⟨w5.heap.size, 3, none⟩ = some (.int .i64 (s'.worked : Nat)) := HL.out.sb_.cell (by omega)
                  have zlt := HL.out.sb_.lt
                  go_wp2_with fail
                  refine (bounded_any s'.used s'.built s'.flushes s'.worked HL.out.q.law.dv.inv.used HL.out.q.law.dv.bu _).mono ?_
                  rintro e wm ⟨rfl, fm⟩
                  have HM : Hid _ := (HL.out.frame ((Fr.refl (fun _ => False) wl).alloc (.cells #[.int .i64 s'.used, .int .i64 s'.built, .int .i64 s'.flushes, .int .i64 s'.worked] 38))).frame fm
                  clear HL
                  go_wp2_with fail
                  go_roundg (gk - 1)
                  case measure => omega
                  case rel => exact ⟨k + 1, _, _, _, _, _, _, _, _, rfl, rfl, rfl, by simp, by omega, by omega, HM.out⟩
                · by_cases hA : (nA : Int) = A0
                  · have tA : (A0 == (nA : Int)) = true := by rw [hA]; exact beq_self_eq_true _
                    have HA : Hid _ := hA
                    clear hA
                    obtain ⟨d, db, tl, M, hH⟩ := AnyG.held (tw := true) (by have := Hag.out; rwa [Int.toNat_natCast] at this) hI.q.law.dv.inv hsz hI.q.law.dv.wk hI.q.law.dv.bu (fun _ => ⟨(sameP_iff _ _).2 (hI.twin rfl).2.1, by have := (hI.twin rfl).2.2; rwa [← HA.out, Int.toNat_natCast] at this⟩)
                    have HH : Hid _ := hH
                    clear hH
                    go_wp2_with fail
                    refine (held_ok HH.out _).mono ?_
                    rintro e w11 ⟨rfl, f11⟩
                    have hnow11 := hnow10.frame f11 (by simp)
                    have hwas11 := hwas10.frame f11 (by simp)
                    have hop11 := hop10.frame f11 (by simp)
                    have hsb11 := hsb10.frame f11 (by simp)
                    have c0 : w11.cell? ⟨wr.heap.size + 1, 0, none⟩ = some (.int .i64 (s.used : Nat)) := hwas11.cell (by omega)
                    have c1 : w11.cell? ⟨wr.heap.size + 1, 1, none⟩ = some (.int .i64 (s.built : Nat)) := hwas11.cell (by omega)
                    have c2 : w11.cell? ⟨wr.heap.size + 1, 2, none⟩ = some (.int .i64 (s.flushes : Nat)) := hwas11.cell (by omega)
                    have c3 : w11.cell? ⟨wr.heap.size + 1, 3, none⟩ = some (.int .i64 (s.worked : Nat)) := hwas11.cell (by omega)
                    have d0 : w11.cell? ⟨w9.heap.size, 0, none⟩ = some (.int .i64 (s'.used : Nat)) := hnow11.cell (by omega)
                    have d1 : w11.cell? ⟨w9.heap.size, 1, none⟩ = some (.int .i64 (s'.built : Nat)) := hnow11.cell (by omega)
                    have d2 : w11.cell? ⟨w9.heap.size, 2, none⟩ = some (.int .i64 (s'.flushes : Nat)) := hnow11.cell (by omega)
                    have d3 : w11.cell? ⟨w9.heap.size, 3, none⟩ = some (.int .i64 (s'.worked : Nat)) := hnow11.cell (by omega)
                    have r1 : w11.cell? ⟨wr.heap.size, 1, none⟩ = some (.int .i64 nA) := hop11.cell (by omega)
                    have t0 : w11.cell? ⟨w5.heap.size, 0, none⟩ = some (.int .i64 (s.used : Nat)) := hsb11.cell (by omega)
                    have t1 : w11.cell? ⟨w5.heap.size, 1, none⟩ = some (.int .i64 (s.built : Nat)) := hsb11.cell (by omega)
                    have t2 : w11.cell? ⟨w5.heap.size, 2, none⟩ = some (.int .i64 (s.flushes : Nat)) := hsb11.cell (by omega)
                    have t3 : w11.cell? ⟨w5.heap.size, 3, none⟩ = some (.int .i64 (s.worked : Nat)) := hsb11.cell (by omega)
                    have z11 := hsb11.frozen
                    have hl11a := hwas11.lt
                    have hl11b := hnow11.lt
                    have f12 := (Fr.refl (fun b => b = w5.heap.size) w11).gset (b' := w5.heap.size) (fun _ => rfl) s'.used s'.built s'.flushes s'.worked
                    have hsb12 := hsb11.gset s'.used s'.built s'.flushes s'.worked
                    clear a0 a1 a2 a3 b0 b1 b2 b3 q1
                    have HQ12 : Hid _ := (((Hkey.out.frame f9A).frame f10).frame f11).stamp hsb11 hI.lay hI.pvb f12
                    clear hcW hlA hcA hL1 hL7
                    go_wp2_with fail
                    refine (copyProg_any HQ12.out.law.code hplen).mono ?_
                    rintro e w13 ⟨rfl, f13, _, hc13⟩
                    have HT : Hid _ := HIB.out.ok (A := (nA : Int)) (tw' := ((s'.flushes : Int) == (s.flushes : Int))) HQ12.out hsb12 f13 hc13 (fun e => ⟨he, by rw [Int.toNat_natCast]; exact Hag.out.cv (by have e' : (s'.flushes : Int) = s.flushes := (by simpa using e); omega)⟩)
                    simp only [World.size_setCell] at HT
                    clear hI HIB HQ12 Hkey hL8 Hag
                    go_wp2_with fail
                    refine (check_any HT.out.q.law.dv).mono ?_
                    rintro e wc ⟨rfl, fc⟩
                    have HC : Hid _ := HT.out.frame fc
                    clear HT
                    go_wp2_with fail
                    refine (look_any HC.out.q.law.dv.mach).mono ?_
                    rintro e wl ⟨rfl, fl⟩
                    unfold gV
                    have HL : Hid _ := HC.out.frame fl
                    clear HC
                    have z0 : wl.cell? ⟨w5.heap.size, 0, none⟩ = some (.int .i64 (s'.used : Nat)) := HL.out.sb_.cell (by omega)
                    have z1 : wl.cell? ⟨w5.heap.size, 1, none⟩ = some (.int .i64 (s'.built : Nat)) := HL.out.sb_.cell (by omega)
                    have z2 : wl.cell? ⟨w5.heap.size, 2, none⟩ = some (.int .i64 (s'.flushes : Nat)) := HL.out.sb_.cell (by omega)
                    have z3 : wl.cell? ⟨w5.heap.size, 3, none⟩ = some (.int .i64 (s'.worked : Nat)) := HL.out.sb_.cell (by omega)
                    have zlt := HL.out.sb_.lt
                    go_wp2_with fail
                    refine (bounded_any s'.used s'.built s'.flushes s'.worked HL.out.q.law.dv.inv.used HL.out.q.law.dv.bu _).mono ?_
                    rintro e wm ⟨rfl, fm⟩
                    have HM : Hid _ := (HL.out.frame ((Fr.refl (fun _ => False) wl).alloc (.cells #[.int .i64 s'.used, .int .i64 s'.built, .int .i64 s'.flushes, .int .i64 s'.worked] 38))).frame fm
                    clear HL
                    go_wp2_with fail
                    go_roundg (gk - 1)
                    case measure => omega
                    case rel => exact ⟨k + 1, _, _, _, _, _, _, _, _, rfl, rfl, rfl, by simp, by omega, by omega, HM.out⟩
                  · have tA : (A0 == (nA : Int)) = false := by simpa using fun e => hA e.symm
                    obtain ⟨d, db, tl, M, hH⟩ := AnyG.held (tw := false) (by have := Hag.out; rwa [Int.toNat_natCast] at this) hI.q.law.dv.inv hsz hI.q.law.dv.wk hI.q.law.dv.bu (fun e => by cases e)
                    have HH : Hid _ := hH
                    clear hH
                    go_wp2_with fail
                    refine (held_ok HH.out _).mono ?_
                    rintro e w11 ⟨rfl, f11⟩
                    have hnow11 := hnow10.frame f11 (by simp)
                    have hwas11 := hwas10.frame f11 (by simp)
                    have hop11 := hop10.frame f11 (by simp)
                    have hsb11 := hsb10.frame f11 (by simp)
                    have c0 : w11.cell? ⟨wr.heap.size + 1, 0, none⟩ = some (.int .i64 (s.used : Nat)) := hwas11.cell (by omega)
                    have c1 : w11.cell? ⟨wr.heap.size + 1, 1, none⟩ = some (.int .i64 (s.built : Nat)) := hwas11.cell (by omega)
                    have c2 : w11.cell? ⟨wr.heap.size + 1, 2, none⟩ = some (.int .i64 (s.flushes : Nat)) := hwas11.cell (by omega)
                    have c3 : w11.cell? ⟨wr.heap.size + 1, 3, none⟩ = some (.int .i64 (s.worked : Nat)) := hwas11.cell (by omega)
                    have d0 : w11.cell? ⟨w9.heap.size, 0, none⟩ = some (.int .i64 (s'.used : Nat)) := hnow11.cell (by omega)
                    have d1 : w11.cell? ⟨w9.heap.size, 1, none⟩ = some (.int .i64 (s'.built : Nat)) := hnow11.cell (by omega)
                    have d2 : w11.cell? ⟨w9.heap.size, 2, none⟩ = some (.int .i64 (s'.flushes : Nat)) := hnow11.cell (by omega)
                    have d3 : w11.cell? ⟨w9.heap.size, 3, none⟩ = some (.int .i64 (s'.worked : Nat)) := hnow11.cell (by omega)
                    have r1 : w11.cell? ⟨wr.heap.size, 1, none⟩ = some (.int .i64 nA) := hop11.cell (by omega)
                    have t0 : w11.cell? ⟨w5.heap.size, 0, none⟩ = some (.int .i64 (s.used : Nat)) := hsb11.cell (by omega)
                    have t1 : w11.cell? ⟨w5.heap.size, 1, none⟩ = some (.int .i64 (s.built : Nat)) := hsb11.cell (by omega)
                    have t2 : w11.cell? ⟨w5.heap.size, 2, none⟩ = some (.int .i64 (s.flushes : Nat)) := hsb11.cell (by omega)
                    have t3 : w11.cell? ⟨w5.heap.size, 3, none⟩ = some (.int .i64 (s.worked : Nat)) := hsb11.cell (by omega)
                    have z11 := hsb11.frozen
                    have hl11a := hwas11.lt
                    have hl11b := hnow11.lt
                    have f12 := (Fr.refl (fun b => b = w5.heap.size) w11).gset (b' := w5.heap.size) (fun _ => rfl) s'.used s'.built s'.flushes s'.worked
                    have hsb12 := hsb11.gset s'.used s'.built s'.flushes s'.worked
                    clear a0 a1 a2 a3 b0 b1 b2 b3 q1
                    have HQ12 : Hid _ := (((Hkey.out.frame f9A).frame f10).frame f11).stamp hsb11 hI.lay hI.pvb f12
                    clear hcW hlA hcA hL1 hL7
                    go_wp2_with fail
                    refine (copyProg_any HQ12.out.law.code hplen).mono ?_
                    rintro e w13 ⟨rfl, f13, _, hc13⟩
                    have HT : Hid _ := HIB.out.ok (A := (nA : Int)) (tw' := ((s'.flushes : Int) == (s.flushes : Int))) HQ12.out hsb12 f13 hc13 (fun e => ⟨he, by rw [Int.toNat_natCast]; exact Hag.out.cv (by have e' : (s'.flushes : Int) = s.flushes := (by simpa using e); omega)⟩)
                    simp only [World.size_setCell] at HT
                    clear hI HIB HQ12 Hkey hL8 Hag
                    go_wp2_with fail
                    refine (check_any HT.out.q.law.dv).mono ?_
                    rintro e wc ⟨rfl, fc⟩
                    have HC : Hid _ := HT.out.frame fc
                    clear HT
                    go_wp2_with fail
                    refine (look_any HC.out.q.law.dv.mach).mono ?_
                    rintro e wl ⟨rfl, fl⟩
                    unfold gV
                    have HL : Hid _ := HC.out.frame fl
                    clear HC
                    have z0 : wl.cell? ⟨w5.heap.size, 0, none⟩ = some (.int .i64 (s'.used : Nat)) := HL.out.sb_.cell (by omega)
                    have z1 : wl.cell? ⟨w5.heap.size, 1, none⟩ = some (.int .i64 (s'.built : Nat)) := HL.out.sb_.cell (by omega)
                    have z2 : wl.cell? ⟨w5.heap.size, 2, none⟩ = some (.int .i64 (s'.flushes : Nat)) := HL.out.sb_.cell (by omega)
                    have z3 : wl.cell? ⟨w5.heap.size, 3, none⟩ = some (.int .i64 (s'.worked : Nat)) := HL.out.sb_.cell (by omega)
                    have zlt := HL.out.sb_.lt
                    go_wp2_with fail
                    refine (bounded_any s'.used s'.built s'.flushes s'.worked HL.out.q.law.dv.inv.used HL.out.q.law.dv.bu _).mono ?_
                    rintro e wm ⟨rfl, fm⟩
                    have HM : Hid _ := (HL.out.frame ((Fr.refl (fun _ => False) wl).alloc (.cells #[.int .i64 s'.used, .int .i64 s'.built, .int .i64 s'.flushes, .int .i64 s'.worked] 38))).frame fm
                    clear HL
                    go_wp2_with fail
                    go_roundg (gk - 1)
                    case measure => omega
                    case rel => exact ⟨k + 1, _, _, _, _, _, _, _, _, rfl, rfl, rfl, by simp, by omega, by omega, HM.out⟩
        · have t1 : (kind == 1) = false := by simpa using k1
          have t2 : (kind == 2) = false := by simpa using k2
          have t9 : (kind == 9) = false := by simpa using k9
          have t3 : (kind == 3) = false := by simpa using k3
          have g0 : wr.cell? ⟨w2.heap.size, 0, none⟩ = some (.int .i64 gh.seen) := hI.q.gb_.cell (by omega)
          have g1 : wr.cell? ⟨w2.heap.size, 1, none⟩ = some (.int .i64 gh.room) := hI.q.gb_.cell (by omega)
          have g2 : wr.cell? ⟨w2.heap.size, 2, none⟩ = some (.int .i64 gh.fl) := hI.q.gb_.cell (by omega)
          have g3 : wr.cell? ⟨w2.heap.size, 3, none⟩ = some (.int .i64 gh.toil) := hI.q.gb_.cell (by omega)
          have g4 : wr.cell? ⟨w2.heap.size, 4, none⟩ = some (.int .i64 gh.most) := hI.q.gb_.cell (by omega)
          have hgl := hI.q.gb_.lt
          clear k1 k2 k9 k3
          go_wp2_with fail
          refine (observe_any hL1.dv gh hI.q.gok (by have := hI.q.b; have := hI.q.wk; have := hI.q.gok.b0; have := hI.q.gok.w0; have := hI.q.rm; have := hI.q.ms; have := Hk42.out; omega) kind A B C S T).mono ?_
          rintro e w6 ⟨gh', rfl, hgk', hgr, hgm, f6⟩
          unfold ghV
          have hg6 := (hI.q.gb_.frame fO (by simp)).frame f6 (by simp)
          have z6 := hg6.frozen
          have y0 := hg6.cell (o := 0) (by omega)
          have y1 := hg6.cell (o := 1) (by omega)
          have y2 := hg6.cell (o := 2) (by omega)
          have y3 := hg6.cell (o := 3) (by omega)
          have y4 := hg6.cell (o := 4) (by omega)
          have key := hI.q.observe fO f6 hgk' hgr hgm
          have fk : Fr (fun b => b = w2.heap.size) w6 (((((w6.setCell ⟨w2.heap.size, 0, none⟩ (.int .i64 gh'.seen)).setCell ⟨w2.heap.size, 1, none⟩ (.int .i64 gh'.room)).setCell ⟨w2.heap.size, 2, none⟩ (.int .i64 gh'.fl)).setCell ⟨w2.heap.size, 3, none⟩ (.int .i64 gh'.toil)).setCell ⟨w2.heap.size, 4, none⟩ (.int .i64 gh'.most)) := by
            iterate 5 refine Fr.setC ?_ _ _ _ (fun _ => rfl)
            exact Fr.refl _ _
          have HT : Hid _ := hI.obs key (((fO.trans f6 (fun _ _ h => h)).mono (fun _ _ h => h.elim)).trans fk (fun _ _ h => h))
          clear key hI
          go_wp2_with fail
          refine (check_any HT.out.q.law.dv).mono ?_
          rintro e wc ⟨rfl, fc⟩
          have HC : Hid _ := HT.out.frame fc
          clear HT
          go_wp2_with fail
          refine (look_any HC.out.q.law.dv.mach).mono ?_
          rintro e wl ⟨rfl, fl⟩
          unfold gV
          have HL : Hid _ := HC.out.frame fl
          clear HC
          have z0 : wl.cell? ⟨w5.heap.size, 0, none⟩ = some (.int .i64 (s.used : Nat)) := HL.out.sb_.cell (by omega)
          have z1 : wl.cell? ⟨w5.heap.size, 1, none⟩ = some (.int .i64 (s.built : Nat)) := HL.out.sb_.cell (by omega)
          have z2 : wl.cell? ⟨w5.heap.size, 2, none⟩ = some (.int .i64 (s.flushes : Nat)) := HL.out.sb_.cell (by omega)
          have z3 : wl.cell? ⟨w5.heap.size, 3, none⟩ = some (.int .i64 (s.worked : Nat)) := HL.out.sb_.cell (by omega)
          have zlt := HL.out.sb_.lt
          go_wp2_with fail
          refine (bounded_any s.used s.built s.flushes s.worked HL.out.q.law.dv.inv.used HL.out.q.law.dv.bu _).mono ?_
          rintro e wm ⟨rfl, fm⟩
          have HM : Hid _ := (HL.out.frame ((Fr.refl (fun _ => False) wl).alloc (.cells #[.int .i64 s.used, .int .i64 s.built, .int .i64 s.flushes, .int .i64 s.worked] 38))).frame fm
          clear HL
          go_wp2_with fail
          go_roundg (gk - 1)
          case measure => omega
          case rel => exact ⟨k + 1, _, _, _, _, _, _, _, _, rfl, rfl, rfl, by simp, by omega, by omega, HM.out⟩
      · have hk3 : (4398046511104 : Int) ≤ k := Int.not_lt.1 hlt2
        have hn3 : (4398046511104 : Int) ≤ n := Int.le_trans hk3 (by omega)
        have Hlt : Hid _ := hlt
        have Hkg : Hid _ := hkg'
        have hlt' : (k : Int) < n := by omega
        have q1 : decide ((k : Int) < 4398046511104) = false := decide_eq_false (Int.not_lt.2 hk3)
        have q2 : decide ((n : Int) < 4398046511104) = false := decide_eq_false (Int.not_lt.2 hn3)
        clear hlt2 hlt hkg' hk3 hn3
        go_wp2_with fail
        all_goals exact bodyPost_ret (v := .tuple #[.int .i64 (-1), .int .i64 4398046511104]) (by simp [results, Try.results7, go_sem]) rfl ⟨⟨_, rfl⟩, hfr⟩
    · have hkn : k = n := by omega
      by_cases hn2 : (n : Int) < 4398046511104
      · go_wp2_with fail
        exact bodyPost_ret (v := .tuple #[.int .i64 (-1), .int .i64 n]) (by simp [results, Try.results7, go_sem]) rfl ⟨⟨_, rfl⟩, hfr⟩
      · go_wp2_with fail
        exact bodyPost_ret (v := .tuple #[.int .i64 (-1), .int .i64 4398046511104]) (by simp [results, Try.results7, go_sem]) rfl ⟨⟨_, rfl⟩, hfr⟩
end Go.Proofs.Qxb6500282a
