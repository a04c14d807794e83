/- The law: Spoil. -/
import Derived.Test.Qxb6500276aGreatLC2
import Derived.Test.Qxb6500276aGreatLC2b
namespace Go.Proofs.Qxb6500276aGreat
open Go Go.RowKit

def mineB : ByteArray := ⟨#[109, 105, 110, 101]⟩
def stN : Nd := ⟨-7, -7, -7, -7, -7, -7, -7, mineB⟩
def stF : Fi := ⟨-7, -7, -7, -7, -7, -7, mineB⟩
/-- An answer that bears the law's mark. -/
def spoil (d : Dn) : Dn := { d with ns := List.replicate d.ns.length stN, ty := List.replicate d.ty.length (-7), rf := List.replicate d.rf.length (-7), rs := List.replicate d.rs.length stF }
theorem NdP.repN {f : Nat → Value} {k : Nat} (h : NdP f (List.replicate k stN)) : NdP (upd8 f k stN) (List.replicate (k + 1) stN) := by
  have := h.push stN
  rw [List.length_replicate] at this
  rw [List.replicate_succ']
  exact this
theorem isBlk_of {a : Option Addr} {n c b : Nat} (h : isBlk (.slice a n c) b) : a = some ⟨b, 0, none⟩ := by obtain ⟨_, _, e⟩ := h; injection e
theorem ILV.lt {w : World} {v : Value} {l : List Int} {b : Nat} (h : ILV w v l) (hb : isBlk v b) : b < w.heap.size := by
  rcases h with ⟨rfl, rfl⟩ | ⟨b', rfl, h1, _⟩
  · exact absurd hb (nilB b)
  · have := isBlk_of hb; injection this with this; injection this with this; subst this; exact h1.lt
theorem FLI.lt {w : World} {v : Value} {l : List Fi} {b : Nat} (h : FLI w v l) (hb : isBlk v b) : b < w.heap.size := by
  rcases h with ⟨rfl, rfl⟩ | ⟨b', f, rfl, h1, _⟩
  · exact absurd hb (nilB b)
  · have := isBlk_of hb; injection this with this; injection this with this; subst this; exact h1.lt
theorem AnsA.lt {w : World} {x : Cr} {b : Nat} (h : AnsA w x) (hb : inA x b) : b < w.heap.size := by
  rcases hb with hb | hb | hb | hb
  · exact h.hv.lt hb
  · exact h.ht.lt hb
  · exact h.hr.lt hb
  · exact h.hf.lt hb
set_option maxRecDepth 100000 in
set_option maxHeartbeats 8000000 in
theorem spoilC {w : World} {x : Cr} (h : AnsA w x) : Calls Tryz.prog 17 #[crV x] w fun e w' => e = .returned (.tuple #[]) ∧ AnsA w' (x.1, spoil x.2) ∧ Fr (inA x) w w' := by
  have F0 := (Fr.refl (inA x) w).alloc (crB x)
  have X0 := crB_blk w x
  have K0 := h.frame ((Fr.refl (fun _ => False) w).alloc (crB x)) (fun _ _ h => h)
  have hbx : ∀ b, inA x b → b ≠ w.heap.size := fun b hb => by have := h.lt hb; omega
  obtain ⟨⟨av, at', ar, af⟩, ⟨ns, root, ty, rf, rs, main, err, pos⟩⟩ := x
  obtain ⟨nl, tl, rl, fl⟩ := And.intro h.nl (And.intro h.tl (And.intro h.rl h.fl))
  simp only at nl tl rl fl
  have HX : Hid (Blk _ w.heap.size 10 _) := X0
  have HF0 : Hid _ := F0
  have HBX : Hid _ := hbx
  have HK0 : Hid _ := K0
  obtain ⟨bx, hbxe⟩ : ∃ bx, w.heap.size = bx := ⟨_, rfl⟩
  rw [hbxe] at HX HBX
  clear F0 X0 K0 h hbx
  unfold crB vV tV rV fV at HX HF0 HK0
  unfold crV chkV vV tV rV fV
  simp only at HX HF0 HK0 ⊢
  go_enter Tryz.func17, Tryz.ntmps17
  go_wp2_with fail
  generalize hw0 : w.alloc _ = w0
  have HS0 : Hid (Blk w0 bx 10 (crC (⟨av, at', ar, af⟩, ⟨ns, root, ty, rf, rs, main, err, pos⟩)) ∧ Fr (inA (⟨av, at', ar, af⟩, ⟨ns, root, ty, rf, rs, main, err, pos⟩)) w w0 ∧ AnsA w0 (⟨av, at', ar, af⟩, ⟨ns, root, ty, rf, rs, main, err, pos⟩)) := by
    rw [← hw0]; exact ⟨HX.out, HF0.out, HK0.out⟩
  clear HX HF0 HK0 hw0
  try rw [hbxe]
  clear hbxe
  go_loopg [2] ns.length (fun gk kv wr => ∃ k : Nat, kv = .int .i64 k ∧ k + gk = ns.length ∧ Fr (isBlk (.slice av ns.length ns.length)) w0 wr ∧ (((av = none ∧ ns.length = 0)) ∨ ∃ b f, av = some ⟨b, 0, none⟩ ∧ 0 < ns.length ∧ Blk wr b (ns.length * 8) f ∧ NdP f (List.replicate k stN)))
  case atStart =>
    refine ⟨0, rfl, by omega, Fr.refl _ _, ?_⟩
    rcases HS0.out.2.2.hv with ⟨h1, h2⟩ | ⟨b, f, h1, h2, h3, h4⟩
    · simp only [vV] at h1 h2; injection h1 with h1 h5 _; exact .inl ⟨h1, by omega⟩
    · simp only [vV] at h1 h2 h4; injection h1 with h1 _ _; exact .inr ⟨b, f, h1, h4, h2, fun j hj => by simp at hj⟩
  case round =>
    obtain ⟨k, rfl, hkg, FJ, hP⟩ := hrel
    have Hkg : Hid _ := hkg
    have XJ := HS0.out.1.frame FJ (fun h => HBX.out bx (.inl h) rfl)
    have c0 := XJ.cell (o := 0) (by omega)
    simp only [crC, vV] at c0
    have xl := XJ.lt
    by_cases hk : k < ns.length
    · have z1 : decide ((k : Int) < (ns.length : Int)) = true := decide_eq_true (by omega)
      have z2 : decide (k < ns.length) = true := decide_eq_true hk
      have hk2 : k < 200 := by omega
      rcases hP with ⟨_, h0⟩ | ⟨b, f, rfl, h0, hb, hp⟩
      · omega
      have hbb : b ≠ bx := HBX.out b (.inl ⟨_, _, rfl⟩)
      have hbb' : bx ≠ b := fun e => hbb e.symm
      have bl := hb.lt
      have hz := hb.frozen
      obtain ⟨o0, o1, o2, o3, o4, o5, o6, o7⟩ := hb.any8 (k := k) (by omega)
      have Hset : Hid _ := set8_blk (m := k) hb stN
      have Hfr : Hid _ := FJ.trans (set8_fr (w := wr) (S := isBlk (.slice (some ⟨b, 0, none⟩) ns.length ns.length)) (b := b) (m := k) stN (fun _ => ⟨_, _, rfl⟩)) (fun _ _ h => h)
      have Hp : Hid _ := hp.repN
      clear hp FJ hb XJ hkg
      go_wp2_with fail
      go_roundg (gk - 1)
      case measure => have := Hkg.out; omega
      case rel => exact ⟨k + 1, by simp, by have := Hkg.out; omega, Hfr.out, .inr ⟨b, _, rfl, h0, Hset.out, Hp.out⟩⟩
    · have z1 : decide ((k : Int) < (ns.length : Int)) = false := decide_eq_false (by omega)
      have z2 : decide (k < ns.length) = false := decide_eq_false hk
      obtain rfl : k = ns.length := by omega
      have N0 : NLV wr (.slice av ns.length ns.length) (List.replicate ns.length stN) := by
        rcases hP with ⟨rfl, h0⟩ | ⟨b, f, rfl, h0, hb, hp⟩
        · exact .inl ⟨by rw [h0], by rw [h0]; rfl⟩
        · exact .inr ⟨b, f, by simp, by simpa using hb, hp, by simpa using h0⟩
      have HN0 : Hid _ := And.intro N0 (And.intro XJ FJ)
      clear N0 XJ FJ hP hk hkg
      go_wp2_with fail
      clear c0 xl z1 z2 Hkg
      obtain ⟨N0, X0, F0⟩ := HN0.out
      have HS1 : Hid (Blk wr bx 10 (crC (⟨av, at', ar, af⟩, ⟨ns, root, ty, rf, rs, main, err, pos⟩)) ∧ Fr (inA (⟨av, at', ar, af⟩, ⟨ns, root, ty, rf, rs, main, err, pos⟩)) w wr ∧ AnsA wr (⟨av, at', ar, af⟩, ⟨List.replicate ns.length stN, root, ty, rf, rs, main, err, pos⟩)) := by
        refine ⟨X0, HS0.out.2.1.trans F0 (fun _ _ h => .inl h), ?_⟩
        have K := HS0.out.2.2
        refine ⟨?_, K.ht.frame F0 (fun b hb h => K.ap.vt b h hb), K.hr.frame F0 (fun b hb h => K.ap.vr b h hb), K.hf.frame F0 (fun b hb h => K.ap.vf b h hb), ?_, by simpa using nl, tl, rl, fl⟩
        · show NLV wr (.slice av (List.replicate ns.length stN).length (List.replicate ns.length stN).length) _
          rw [List.length_replicate]; exact N0
        · have := K.ap
          unfold vV tV rV fV at this ⊢
          simpa only [List.length_replicate] using this
      clear N0 X0 F0 HN0
      generalize wr = w1 at *
      go_loopg [3] ty.length (fun gk kv wr => ∃ k : Nat, kv = .int .i64 k ∧ k + gk = ty.length ∧ Fr (isBlk (.slice at' ty.length ty.length)) w1 wr ∧ (((at' = none ∧ ty.length = 0)) ∨ ∃ b f, at' = some ⟨b, 0, none⟩ ∧ 0 < ty.length ∧ Blk wr b ty.length f ∧ ∀ o, o < k → f o = .int .i64 (-7)))
      case atStart =>
        refine ⟨0, rfl, by omega, Fr.refl _ _, ?_⟩
        rcases HS1.out.2.2.ht with ⟨h1, h2⟩ | ⟨b, h1, h2, h4⟩
        · simp only [tV] at h1 h2; injection h1 with h1 h5 _; exact .inl ⟨h1, by omega⟩
        · simp only [tV] at h1 h2 h4; injection h1 with h1 _ _; exact .inr ⟨b, _, h1, h4, h2, fun o ho => by omega⟩
      case round =>
        obtain ⟨k, rfl, hkg, FJ, hP⟩ := hrel
        have Hkg : Hid _ := hkg
        have XJ := HS1.out.1.frame FJ (fun h => HBX.out bx ((fun h => .inr (.inl h)) h) rfl)
        have c0 := XJ.cell (o := 4) (by omega)
        simp only [crC, tV] at c0
        have xl := XJ.lt
        by_cases hk : k < ty.length
        · have z1 : decide ((k : Int) < (ty.length : Int)) = true := decide_eq_true (by omega)
          have z2 : decide (k < ty.length) = true := decide_eq_true hk
          have hk2 : k < 200 := by omega
          rcases hP with ⟨_, h0⟩ | ⟨b, f, rfl, h0, hb, hp⟩
          · omega
          have hbb : b ≠ bx := HBX.out b ((fun h => .inr (.inl h)) ⟨_, _, rfl⟩)
          have hbb' : bx ≠ b := fun e => hbb e.symm
          have bl := hb.lt
          have hz := hb.frozen
          have o0 := hb.cell (o := k) hk
          have Hset : Hid _ := hb.set k (.int .i64 (-7))
          have Hfr : Hid _ := FJ.setC b k (.int .i64 (-7)) (fun _ => ⟨_, _, rfl⟩)
          have Hp : Hid (∀ o, o < k + 1 → upd f k (.int .i64 (-7)) o = .int .i64 (-7)) := fun o ho => by
            by_cases e : o = k
            · subst e; exact upd_same _ _ _
            · rw [upd_other _ _ _ _ e]; exact hp o (by omega)
          clear hp FJ hb XJ hkg
          go_wp2_with fail
          go_roundg (gk - 1)
          case measure => have := Hkg.out; omega
          case rel => exact ⟨k + 1, by simp, by have := Hkg.out; omega, Hfr.out, .inr ⟨b, _, rfl, h0, Hset.out, Hp.out⟩⟩
        · have z1 : decide ((k : Int) < (ty.length : Int)) = false := decide_eq_false (by omega)
          have z2 : decide (k < ty.length) = false := decide_eq_false hk
          obtain rfl : k = ty.length := by omega
          have N1 : ILV wr (.slice at' ty.length ty.length) (List.replicate ty.length (-7)) := by
            rcases hP with ⟨rfl, h0⟩ | ⟨b, f, rfl, h0, hb, hp⟩
            · exact .inl ⟨by rw [h0], by rw [h0]; rfl⟩
            · exact .inr ⟨b, by simp, by simp only [List.length_replicate]; exact hb.congr fun o ho => by rw [hp o (by omega)]; simp [iL, List.getD_eq_getElem?_getD, ho], by simpa using h0⟩
          have HN1 : Hid _ := And.intro N1 (And.intro XJ FJ)
          clear N1 XJ FJ hP hk hkg
          go_wp2_with fail
          clear c0 xl z1 z2 Hkg
          obtain ⟨N0, X0, F0⟩ := HN1.out
          have HS2 : Hid (Blk wr bx 10 (crC (⟨av, at', ar, af⟩, ⟨ns, root, ty, rf, rs, main, err, pos⟩)) ∧ Fr (inA (⟨av, at', ar, af⟩, ⟨ns, root, ty, rf, rs, main, err, pos⟩)) w wr ∧ AnsA wr (⟨av, at', ar, af⟩, ⟨List.replicate ns.length stN, root, List.replicate ty.length (-7), rf, rs, main, err, pos⟩)) := by
            have K := HS1.out.2.2
            refine ⟨X0, HS1.out.2.1.trans F0 (fun _ _ h => .inr (.inl h)), ?_⟩
            refine ⟨K.hv.frame F0 (fun b hb h => K.ap.vt b hb h), ?_, K.hr.frame F0 (fun b hb h => K.ap.tr b h hb), K.hf.frame F0 (fun b hb h => K.ap.tf b h hb), ?_, K.nl, by simpa using tl, rl, fl⟩
            · show ILV wr (.slice at' (List.replicate ty.length (-7 : Int)).length (List.replicate ty.length (-7 : Int)).length) _
              rw [List.length_replicate]; exact N0
            · have := K.ap
              unfold vV tV rV fV at this ⊢
              simpa only [List.length_replicate] using this
          clear N0 X0 F0 HN1
          generalize wr = w2 at *
          go_loopg [4] rf.length (fun gk kv wr => ∃ k : Nat, kv = .int .i64 k ∧ k + gk = rf.length ∧ Fr (isBlk (.slice ar rf.length rf.length)) w2 wr ∧ (((ar = none ∧ rf.length = 0)) ∨ ∃ b f, ar = some ⟨b, 0, none⟩ ∧ 0 < rf.length ∧ Blk wr b rf.length f ∧ ∀ o, o < k → f o = .int .i64 (-7)))
          case atStart =>
            refine ⟨0, rfl, by omega, Fr.refl _ _, ?_⟩
            rcases HS2.out.2.2.hr with ⟨h1, h2⟩ | ⟨b, h1, h2, h4⟩
            · simp only [rV] at h1 h2; injection h1 with h1 h5 _; exact .inl ⟨h1, by omega⟩
            · simp only [rV] at h1 h2 h4; injection h1 with h1 _ _; exact .inr ⟨b, _, h1, h4, h2, fun o ho => by omega⟩
          case round =>
            obtain ⟨k, rfl, hkg, FJ, hP⟩ := hrel
            have Hkg : Hid _ := hkg
            have XJ := HS2.out.1.frame FJ (fun h => HBX.out bx ((fun h => .inr (.inr (.inl h))) h) rfl)
            have c0 := XJ.cell (o := 5) (by omega)
            simp only [crC, rV] at c0
            have xl := XJ.lt
            by_cases hk : k < rf.length
            · have z1 : decide ((k : Int) < (rf.length : Int)) = true := decide_eq_true (by omega)
              have z2 : decide (k < rf.length) = true := decide_eq_true hk
              have hk2 : k < 200 := by omega
              rcases hP with ⟨_, h0⟩ | ⟨b, f, rfl, h0, hb, hp⟩
              · omega
              have hbb : b ≠ bx := HBX.out b ((fun h => .inr (.inr (.inl h))) ⟨_, _, rfl⟩)
              have hbb' : bx ≠ b := fun e => hbb e.symm
              have bl := hb.lt
              have hz := hb.frozen
              have o0 := hb.cell (o := k) hk
              have Hset : Hid _ := hb.set k (.int .i64 (-7))
              have Hfr : Hid _ := FJ.setC b k (.int .i64 (-7)) (fun _ => ⟨_, _, rfl⟩)
              have Hp : Hid (∀ o, o < k + 1 → upd f k (.int .i64 (-7)) o = .int .i64 (-7)) := fun o ho => by
                by_cases e : o = k
                · subst e; exact upd_same _ _ _
                · rw [upd_other _ _ _ _ e]; exact hp o (by omega)
              clear hp FJ hb XJ hkg
              go_wp2_with fail
              go_roundg (gk - 1)
              case measure => have := Hkg.out; omega
              case rel => exact ⟨k + 1, by simp, by have := Hkg.out; omega, Hfr.out, .inr ⟨b, _, rfl, h0, Hset.out, Hp.out⟩⟩
            · have z1 : decide ((k : Int) < (rf.length : Int)) = false := decide_eq_false (by omega)
              have z2 : decide (k < rf.length) = false := decide_eq_false hk
              obtain rfl : k = rf.length := by omega
              have N2 : ILV wr (.slice ar rf.length rf.length) (List.replicate rf.length (-7)) := by
                rcases hP with ⟨rfl, h0⟩ | ⟨b, f, rfl, h0, hb, hp⟩
                · exact .inl ⟨by rw [h0], by rw [h0]; rfl⟩
                · exact .inr ⟨b, by simp, by simp only [List.length_replicate]; exact hb.congr fun o ho => by rw [hp o (by omega)]; simp [iL, List.getD_eq_getElem?_getD, ho], by simpa using h0⟩
              have HN2 : Hid _ := And.intro N2 (And.intro XJ FJ)
              clear N2 XJ FJ hP hk hkg
              go_wp2_with fail
              clear c0 xl z1 z2 Hkg
              obtain ⟨N0, X0, F0⟩ := HN2.out
              have HS3 : Hid (Blk wr bx 10 (crC (⟨av, at', ar, af⟩, ⟨ns, root, ty, rf, rs, main, err, pos⟩)) ∧ Fr (inA (⟨av, at', ar, af⟩, ⟨ns, root, ty, rf, rs, main, err, pos⟩)) w wr ∧ AnsA wr (⟨av, at', ar, af⟩, ⟨List.replicate ns.length stN, root, List.replicate ty.length (-7), List.replicate rf.length (-7), rs, main, err, pos⟩)) := by
                have K := HS2.out.2.2
                refine ⟨X0, HS2.out.2.1.trans F0 (fun _ _ h => .inr (.inr (.inl h))), ?_⟩
                refine ⟨K.hv.frame F0 (fun b hb h => K.ap.vr b hb h), K.ht.frame F0 (fun b hb h => K.ap.tr b hb h), ?_, K.hf.frame F0 (fun b hb h => K.ap.rf b h hb), ?_, K.nl, K.tl, by simpa using rl, fl⟩
                · show ILV wr (.slice ar (List.replicate rf.length (-7 : Int)).length (List.replicate rf.length (-7 : Int)).length) _
                  rw [List.length_replicate]; exact N0
                · have := K.ap
                  unfold vV tV rV fV at this ⊢
                  simpa only [List.length_replicate] using this
              clear N0 X0 F0 HN2
              generalize wr = w3 at *
              go_loopg [5] rs.length (fun gk kv wr => ∃ k : Nat, kv = .int .i64 k ∧ k + gk = rs.length ∧ Fr (isBlk (.slice af rs.length rs.length)) w3 wr ∧ (((af = none ∧ rs.length = 0)) ∨ ∃ b f, af = some ⟨b, 0, none⟩ ∧ 0 < rs.length ∧ Blk wr b (rs.length * 7) f ∧ FiP f (List.replicate k stF)))
              case atStart =>
                refine ⟨0, rfl, by omega, Fr.refl _ _, ?_⟩
                rcases HS3.out.2.2.hf with ⟨h1, h2⟩ | ⟨b, f, h1, h2, h3, h4⟩
                · simp only [fV] at h1 h2; injection h1 with h1 h5 _; exact .inl ⟨h1, by omega⟩
                · simp only [fV] at h1 h2 h4; injection h1 with h1 _ _; exact .inr ⟨b, f, h1, h4, h2, fun j hj => by simp at hj⟩
              case round =>
                obtain ⟨k, rfl, hkg, FJ, hP⟩ := hrel
                have Hkg : Hid _ := hkg
                have XJ := HS3.out.1.frame FJ (fun h => HBX.out bx ((fun h => .inr (.inr (.inr h))) h) rfl)
                have c0 := XJ.cell (o := 6) (by omega)
                simp only [crC, fV] at c0
                have xl := XJ.lt
                by_cases hk : k < rs.length
                · have z1 : decide ((k : Int) < (rs.length : Int)) = true := decide_eq_true (by omega)
                  have z2 : decide (k < rs.length) = true := decide_eq_true hk
                  have hk2 : k < 200 := by omega
                  rcases hP with ⟨_, h0⟩ | ⟨b, f, rfl, h0, hb, hp⟩
                  · omega
                  have hbb : b ≠ bx := HBX.out b ((fun h => .inr (.inr (.inr h))) ⟨_, _, rfl⟩)
                  have hbb' : bx ≠ b := fun e => hbb e.symm
                  have bl := hb.lt
                  have hz := hb.frozen
                  have o0 := hb.cell (o := k * 7) (by omega)
                  have o1 := hb.cell (o := k * 7 + 1) (by omega)
                  have o2 := hb.cell (o := k * 7 + 2) (by omega)
                  have o3 := hb.cell (o := k * 7 + 3) (by omega)
                  have o4 := hb.cell (o := k * 7 + 4) (by omega)
                  have o5 := hb.cell (o := k * 7 + 5) (by omega)
                  have o6 := hb.cell (o := k * 7 + 6) (by omega)
                  obtain ⟨g2, B2, p0, p1, p2, p3, p4, p5, p6, p7⟩ := hb.set7 (k * 7) (.int .i64 (-7)) (.int .i64 (-7)) (.int .i64 (-7)) (.int .i64 (-7)) (.int .i64 (-7)) (.int .i64 (-7)) (.string mineB)
                  have F2' := FJ.set7 (c := b) (show isBlk (.slice (some ⟨b, 0, none⟩) rs.length rs.length) b from ⟨_, _, rfl⟩) (k * 7) (.int .i64 (-7)) (.int .i64 (-7)) (.int .i64 (-7)) (.int .i64 (-7)) (.int .i64 (-7)) (.int .i64 (-7)) (.string mineB)
                  have Hp : Hid (FiP g2 (List.replicate (k + 1) stF)) := fun j hj o ho => by
                    rw [List.length_replicate] at hj
                    rw [List.getElem_replicate]
                    by_cases e : j = k
                    · subst e
                      rcases lt7c ho with rfl | rfl | rfl | rfl | rfl | rfl | rfl
                      · exact p0
                      · exact p1
                      · exact p2
                      · exact p3
                      · exact p4
                      · exact p5
                      · exact p6
                    · rw [p7 _ (by omega)]
                      have := hp j (by rw [List.length_replicate]; omega) o ho
                      rw [List.getElem_replicate] at this
                      exact this
                  have Hset : Hid (_ ∧ _) := ⟨B2, F2'⟩
                  clear hp FJ hb XJ hkg B2 F2' p0 p1 p2 p3 p4 p5 p6 p7
                  unfold mineB at Hset
                  go_wp2_with fail
                  go_roundg (gk - 1)
                  case measure => have := Hkg.out; omega
                  case rel => exact ⟨k + 1, by simp, by have := Hkg.out; omega, Hset.out.2, .inr ⟨b, _, rfl, h0, Hset.out.1, Hp.out⟩⟩
                · have z1 : decide ((k : Int) < (rs.length : Int)) = false := decide_eq_false (by omega)
                  have z2 : decide (k < rs.length) = false := decide_eq_false hk
                  obtain rfl : k = rs.length := by omega
                  have N3 : FLI wr (.slice af rs.length rs.length) (List.replicate rs.length stF) := by
                    rcases hP with ⟨rfl, h0⟩ | ⟨b, f, rfl, h0, hb, hp⟩
                    · exact .inl ⟨by rw [h0], by rw [h0]; rfl⟩
                    · exact .inr ⟨b, f, by simp, by simpa using hb, hp, by simpa using h0⟩
                  have HN3 : Hid _ := And.intro N3 (And.intro XJ FJ)
                  clear N3 XJ FJ hP hk hkg
                  go_wp2_with fail
                  clear c0 xl z1 z2 Hkg
                  go_end0
                  obtain ⟨N0, X0, F0⟩ := HN3.out
                  have K := HS3.out.2.2
                  refine ⟨rfl, ⟨K.hv.frame F0 (fun b hb h => K.ap.vf b hb h), K.ht.frame F0 (fun b hb h => K.ap.tf b hb h), K.hr.frame F0 (fun b hb h => K.ap.rf b hb h), ?_, ?_, K.nl, K.tl, K.rl, by simpa [spoil] using fl⟩, HS3.out.2.1.trans F0 (fun _ _ h => .inr (.inr (.inr h)))⟩
                  · show FLI wr (.slice af (List.replicate rs.length stF).length (List.replicate rs.length stF).length) _
                    rw [List.length_replicate]; exact N0
                  · have := K.ap
                    unfold vV tV rV fV at this ⊢
                    simpa only [List.length_replicate, spoil] using this
end Go.Proofs.Qxb6500276aGreat
