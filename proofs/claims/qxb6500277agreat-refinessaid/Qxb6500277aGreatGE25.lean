/- The real engine: Run. -/
import Derived.Test.Qxb6500277aGreatGE24
import Derived.Test.Qxb6500277aGreatGN2
import Derived.Test.Qxb6500277aGreatGP27
namespace Go.Proofs.Qxb6500277aGreat
open Go Go.RowKit

/-- A text that is refused; a text that is taken. -/
def GBad (src : ByteArray) (er po : Int) : Prop := ∃ ns root ty rf rs main, KA src ns root ty rf rs main er po ∧ er ≠ 0
def GOk (src : ByteArray) (X : Cx) (s : Ck) (m : Nat) : Prop := Ans src (flFs 0 (treeOf src)) (hdF 0 (treeOf src)) 0 0 ∧ ckAll (treeOf src) src.size = .ok X s m
noncomputable def cdS (src : ByteArray) (X : Cx) (s : Ck) (m : Nat) (I : List Int) : List Nat := codeP (mkP X s (treeOf src) I) m
/-- What a Run answers. -/
def GAns (src : ByteArray) (I : List Int) (fuel er po en rt fu : Int) (L : List Int) : Prop :=
  (4096 < src.size ∧ er = 31 ∧ po = 4096 ∧ en = 0 ∧ rt = 0 ∧ fu = fuel ∧ L = []) ∨
  (src.size ≤ 4096 ∧ 128 < I.length ∧ er = 32 ∧ po = 128 ∧ en = 0 ∧ rt = 0 ∧ fu = fuel ∧ L = []) ∨
  (src.size ≤ 4096 ∧ I.length ≤ 128 ∧ GBad src er po ∧ en = 0 ∧ rt = 0 ∧ fu = fuel ∧ L = []) ∨
  (src.size ≤ 4096 ∧ I.length ≤ 128 ∧ ∃ X s m k, GOk src X s m ∧ RunR (cdS src X s m I) I (X1 (cdS src X s m I) fuel) k ∧ er = 0 ∧ po = 0 ∧ en = (itV (cdS src X s m I) I k (X1 (cdS src X s m I) fuel)).1.en ∧ rt = (itV (cdS src X s m I) I k (X1 (cdS src X s m I) fuel)).1.rt ∧ fu = (itV (cdS src X s m I) I k (X1 (cdS src X s m I) fuel)).1.fuel ∧ L = (itV (cdS src X s m I) I k (X1 (cdS src X s m I) fuel)).1.out)
def GRunR (w : World) (g : Nat) (R : Nat → Prop) (src : ByteArray) (I : List Int) (fuel : Int) (e : Ending) (w' : World) : Prop := ∃ er po en rt fu L v R', e = .returned (resV er po en rt v fu) ∧ GAns src I fuel er po en rt fu L ∧ GReal w' g R' ∧ (∀ b, R' b → R b ∨ w.heap.size ≤ b) ∧ KiX w' v L ∧ (∀ b, isB v b → w.heap.size ≤ b ∧ ¬ R' b) ∧ Fr R w w'
section
variable {w : World} {g : Nat} {R : Nat → Prop} {src : ByteArray} {I : List Int} {fuel : Int} {yv : Value}
set_option maxRecDepth 100000 in
set_option maxHeartbeats 1000000 in
theorem runG_long (H : GReal w g R) (hs : 4096 < src.size) : Calls Tryz.prog 30 #[.pointer (some ⟨g, 0, none⟩), .string src, yv, .int .i64 fuel] w (GRunR w g R src I fuel) := by
  have z1 : decide ((src.size : Int) > 4096) = true := decide_eq_true (by omega)
  have z2 : decide ((4096 : Int) < src.size) = true := decide_eq_true (by omega)
  have HH : Hid (True ∧ _) := ⟨trivial, And.intro H hs⟩
  clear H hs
  go_enter Tryz.func30, Tryz.ntmps30
  go_wp2_with fail
  refine bodyPost_ret (v := resV 31 4096 0 0 nilS fuel) (by simp [results, Tryz.results30, go_sem, resV]) rfl ?_
  obtain ⟨_, H, hs⟩ := HH.out
  have k := (Fr.refl (fun _ => False) w).alloc (.cells #[.int .i64 31, .int .i64 4096, .int .i64 0, .int .i64 0, .slice none 0 0, .int .i64 fuel] 39)
  exact ⟨31, 4096, 0, 0, fuel, [], nilS, R, rfl, .inl ⟨hs, rfl, rfl, rfl, rfl, rfl, rfl⟩, H.frame k fun _ _ => id, fun b hb => .inl hb, .inl ⟨rfl, rfl⟩, fun b hb => absurd hb (nil_noB b), k.mono fun _ _ h => h.elim⟩
set_option maxRecDepth 100000 in
set_option maxHeartbeats 1000000 in
theorem runG_inp (H : GReal w g R) (hy : KiAt w yv I) (hs : src.size ≤ 4096) (hI : 128 < I.length) : Calls Tryz.prog 30 #[.pointer (some ⟨g, 0, none⟩), .string src, yv, .int .i64 fuel] w (GRunR w g R src I fuel) := by
  have z1 : decide ((src.size : Int) > 4096) = false := decide_eq_false (by omega)
  have z2 : decide ((4096 : Int) < src.size) = false := decide_eq_false (by omega)
  have z3 : decide ((I.length : Int) > 128) = true := decide_eq_true (by omega)
  have z4 : decide ((128 : Int) < I.length) = true := decide_eq_true (by omega)
  obtain ⟨ya, yc, rfl, _⟩ := hy.sl
  have HH : Hid (True ∧ _) := ⟨trivial, And.intro H (And.intro hs hI)⟩
  clear H hs hI hy
  go_enter Tryz.func30, Tryz.ntmps30
  go_wp2_with fail
  refine bodyPost_ret (v := resV 32 128 0 0 nilS fuel) (by simp [results, Tryz.results30, go_sem, resV]) rfl ?_
  obtain ⟨_, H, hs, hI⟩ := HH.out
  have k := (Fr.refl (fun _ => False) w).alloc (.cells #[.int .i64 32, .int .i64 128, .int .i64 0, .int .i64 0, .slice none 0 0, .int .i64 fuel] 39)
  exact ⟨32, 128, 0, 0, fuel, [], nilS, R, rfl, .inr (.inl ⟨hs, hI, rfl, rfl, rfl, rfl, rfl, rfl⟩), H.frame k fun _ _ => id, fun b hb => .inl hb, .inl ⟨rfl, rfl⟩, fun b hb => absurd hb (nil_noB b), k.mono fun _ _ h => h.elim⟩
/-- What compiling a checked text leaves of the engine, with its parts. -/
theorem GdB.of {src : ByteArray} {X : Cx} {s : Ck} {m : Nat} (h : GOk src X s m) (I : List Int) : GdB ⟨cdS src X s m I, [], fxL (mkP X s (treeOf src) I) (ordL (mkP X s (treeOf src) I).fns.length m) 0, (List.range (mkP X s (treeOf src) I).fns.length).map fun i => ((enP (mkP X s (treeOf src) I) m i : Nat) : Int)⟩ :=
  .inr ⟨mkP X s (treeOf src) I, m, (src_chk h.1 h.2).ok I, rfl⟩
theorem cdS_inp (src : ByteArray) (X : Cx) (s : Ck) (m : Nat) (I J : List Int) : cdS src X s m I = cdS src X s m J := by
  have h1 := codeP_inp (mkP X s (treeOf src) J) I m
  exact h1
variable {c p : Nat} {A : Va} {P Op Op' : Nat → Prop} {cv iv cv' iv' : Value} {hd : Nat → Value} {B : Gb} {w1 w' : World}
/-- The checker has been called. -/
theorem GEx.chk (E : GEx w g c p A P Op cv iv hd B) (hl : ∀ b, GAll c A P Op cv iv b → b < w.heap.size) (R1 : RIx w1 p Op') (o1 : ∀ b, Op' b → Op b ∨ w.heap.size ≤ b) (C1 : CI w1 c p) (oc : ¬ Op' c) (F1 : Fr (fun b => b = c ∨ Op b) w w1) : GEx w1 g c p A P Op' cv iv hd B := by
  refine ⟨E.gx.frame F1 fun b hb h => h.elim (E.ap b hb).2.1 (E.ap b hb).1, E.h0, E.h1, R1, C1, oc, E.rv.frame F1 fun b hb h => h.elim (fun e => E.ac (e ▸ hb)) fun h => E.ao b h hb, fun b hb => ⟨fun h => ?_, (E.ap b hb).2⟩, fun b hb h => ?_, E.ac, E.gd⟩
  · rcases o1 b h with h | h
    · exact (E.ap b hb).1 h
    · have := hl b (.inl hb); omega
  · rcases o1 b hb with h1 | h1
    · exact E.ao b h1 h
    · have := hl b (.inr (.inr (.inr h))); omega
/-- A checked text is compiled. -/
theorem GEx.comp (E : GEx w g c p A P Op cv iv hd B) (hl : ∀ b, GAll c A P Op cv iv b → b < w.heap.size) {v t r f : Value} {X : Cx} {s : Ck} {m : Nat} {root : Int} (h : GOk src X s m) (AM : AnsM w v t r f (flFs 0 (treeOf src)) s.ty s.rf (X.fs.zip s.lim)) (hb : ∀ b, inB4 v t r f b → b < w.heap.size ∧ ¬ P b) (I : List Int) :
    Calls Tryz.prog 46 #[.pointer (some ⟨g, 0, none⟩), chkV v root 0 0 t r f (m : Nat) 0 0] w fun e w' => e = .returned (.tuple #[]) ∧ (∃ hd' B', B'.code = cdS src X s m I ∧ GEx w' g c p A (Gw P w w') Op cv iv hd' B') ∧ Fr P w w' := by
  have K := src_chk h.1 h.2
  refine (compileG (root := root) (err := 0) (pos := 0) E.gx (P0 := mkP X s (treeOf src) I) AM hb K.tl K.rl (K.cm I _ g)).mono ?_
  rintro e w' ⟨rfl, X1, F1⟩
  refine ⟨rfl, ⟨_, _, rfl, X1, E.h0, E.h1, E.ri.frame F1 fun b hb h => (E.ap b h).1 hb, E.ci.frame F1 fun h => (E.ap c h).2.1 rfl, E.oc, E.rv.frame F1 fun b hb h => (E.ap b h).2.2 hb, fun b hb => ?_, E.ao, E.ac, GdB.of h I⟩, F1⟩
  rcases hb with hb | hb
  · exact E.ap b hb
  · exact ⟨fun h => by have := hl b (.inr (.inl h)); have := hb.1; omega, fun h => by have := hl b (.inr (.inr (.inl h))); have := hb.1; omega, fun h => by have := hl b (.inr (.inr (.inr h))); have := hb.1; omega⟩
/-- The machine has run. -/
theorem GEx.ran (E : GEx w g c p A P Op cv iv hd B) (hl : ∀ b, GAll c A P Op cv iv b → b < w.heap.size) (R1 : RV w1 A cv' iv') (F1 : Fr (VQ A cv iv) w w1) (cb : ∀ b, isB cv' b → w.heap.size ≤ b ∨ isB cv b) (ib : ∀ b, isB iv' b → w.heap.size ≤ b ∨ isB iv b) : GEx w1 g c p A P Op cv' iv' hd B := by
  have hq : ∀ b, b < w.heap.size → VQ A cv' iv' b → VQ A cv iv b := fun b hb h => by
    rcases h with h | h | h
    · exact .inl h
    · exact .inr (.inl ((cb b h).resolve_left (by omega)))
    · exact .inr (.inr ((ib b h).resolve_left (by omega)))
  exact ⟨E.gx.frame F1 fun b hb h => (E.ap b hb).2.2 h, E.h0, E.h1, E.ri.frame F1 fun b hb h => E.ao b hb h, E.ci.frame F1 E.ac, E.oc, R1, fun b hb => ⟨(E.ap b hb).1, (E.ap b hb).2.1, fun h => (E.ap b hb).2.2 (hq b (hl b (.inl hb)) h)⟩, fun b hb h => E.ao b hb (hq b (hl b (.inr (.inl hb))) h), fun h => E.ac (hq c (hl c (.inr (.inr (.inl rfl)))) h), E.gd⟩
theorem AnsM.lt {v t r f : Value} {ns : List Nd} {ty rf : List Int} {rs : List FR} (h : AnsM w v t r f ns ty rf rs) {b : Nat} (hb : inB4 v t r f b) : b < w.heap.size := by
  rcases hb with hb | hb | hb | hb
  · exact h.hv.lt hb
  · rcases h.ht with ⟨rfl, _⟩ | ⟨x, rfl, h1, _⟩
    · obtain ⟨_, _, e⟩ := hb; cases e
    · obtain ⟨_, _, e⟩ := hb; injection e with e _ _; injection e with e; injection e with e _ _; subst e; exact h1.lt
  · rcases h.hr with ⟨rfl, _⟩ | ⟨x, rfl, h1, _⟩
    · obtain ⟨_, _, e⟩ := hb; cases e
    · obtain ⟨_, _, e⟩ := hb; injection e with e _ _; injection e with e; injection e with e _ _; subst e; exact h1.lt
  · rcases h.hf with ⟨rfl, _⟩ | ⟨x, _, rfl, h1, _⟩
    · obtain ⟨_, _, e⟩ := hb; cases e
    · obtain ⟨_, _, e⟩ := hb; injection e with e _ _; injection e with e; injection e with e _ _; subst e; exact h1.lt
theorem cd_len {X : Cx} {s : Ck} {m : Nat} (h : GOk src X s m) (I : List Int) : 0 < (cdS src X s m I).length ∧ (cdS src X s m I).length ≤ 3000 := by
  have K := (src_chk h.1 h.2).ok I
  refine ⟨?_, K.len⟩
  have q := ((K.ok.fn m K.mn).2.2.1).1
  rw [cF_len] at q
  have : nF (fiA (mkP X s (treeOf src) I) m) ≥ 5 := by unfold nF; omega
  show 0 < (codeP (mkP X s (treeOf src) I) m).length
  omega
set_option maxRecDepth 100000 in
set_option maxHeartbeats 8000000 in
theorem runG_go (H : GReal w g R) (hy : KiAt w yv I) (hyd : ∀ b, isB yv b → ¬ R b) (hs : src.size ≤ 4096) (hI : I.length ≤ 128) (hf : fuel ≤ 9223372036854775807) : Calls Tryz.prog 30 #[.pointer (some ⟨g, 0, none⟩), .string src, yv, .int .i64 fuel] w (GRunR w g R src I fuel) := by
  have z1 : decide ((src.size : Int) > 4096) = false := decide_eq_false (by omega)
  have z2 : decide ((4096 : Int) < src.size) = false := decide_eq_false (by omega)
  have z3 : decide ((I.length : Int) > 128) = false := decide_eq_false (by omega)
  have z4 : decide ((128 : Int) < I.length) = false := decide_eq_false (by omega)
  obtain ⟨c, p, A, P, Op, cv, iv, hd, B, E, hR, hRl⟩ := H
  obtain ⟨ya, yc, eyv, _⟩ := hy.sl
  have k0 := (Fr.refl (fun _ => False) w).alloc box6
  have hB := box6_blk w
  have E0 := E.frame k0 fun _ _ => id
  have hsz : (w.alloc box6).heap.size = w.heap.size + 1 := by simp [World.size_alloc]
  have q := checkC E0.ri E0.ci E0.oc src
  have hgl : g < (w.alloc box6).heap.size := by obtain ⟨_, _, _, _, _, Y⟩ := E0.gx; exact Y.glt
  have c0 : (w.alloc box6).cell? ⟨g, 0, none⟩ = some (.pointer (some ⟨c, 0, none⟩)) := by
    obtain ⟨_, _, _, _, _, Y⟩ := E0.gx
    have := Y.cl (o := 0) (by omega)
    rw [this, ← E.h0]
    rfl
  have HH : Hid (True ∧ _) := ⟨trivial, And.intro E (And.intro hR (And.intro hRl (And.intro hy (And.intro hyd (And.intro hs (And.intro hI (And.intro k0 (And.intro hB (And.intro E0 (And.intro hsz eyv))))))))))⟩
  rw [eyv]
  clear E hR hRl hy hyd hs hI k0 hB E0 hsz eyv
  unfold box6 at q c0 hgl
  go_enter Tryz.func30, Tryz.ntmps30
  go_wp2_with fail
  refine q.mono ?_
  rintro v w1 ⟨Op', v, t, r, f, ns, root, ty, rf, rs, main, err, pos, rfl, R1, o1, C1, oc1, F1, AM, fb, K1⟩
  clear q c0 hgl z1 z2 z3 z4
  obtain ⟨va, vk, rfl⟩ := nlv_sl AM.hv
  obtain ⟨ta, tk, rfl⟩ := ilv_sl AM.ht
  obtain ⟨ra, rk, rfl⟩ := ilv_sl AM.hr
  obtain ⟨fa, fk, rfl⟩ := flv_sl AM.hf
  unfold chkV
  obtain ⟨_, E, hR, hRl, hy, hyd, hs, hI, k0, hB, E0, hsz, eyv⟩ := HH.out
  have hoc : ∀ b, (b = c ∨ Op b) → R b := fun b hb => hR b (hb.elim (fun h => .inr (.inr (.inl h))) fun h => .inr (.inl h))
  have hRn : ¬ R w.heap.size := fun h => by have := hRl _ h; omega
  have hB1 : Blk w1 w.heap.size 6 z6 := hB.frame F1 fun h => hRn (hoc _ h)
  have F01 : Fr R w w1 := (k0.mono (S' := R) fun _ _ h => h.elim).trans F1 fun b _ h => hoc b h
  have hl0 : ∀ b, GAll c A P Op cv iv b → b < w.heap.size := fun b hb => hRl b (hR b hb)
  have o1' : ∀ b, Op' b → Op b ∨ w.heap.size < b := fun b hb => (o1 b hb).imp id fun h => by have : (w.alloc box6).heap.size ≤ b := h; omega
  have E1 := E0.chk (fun b hb => by have := hl0 b hb; omega) R1 o1 C1 oc1 F1
  have sz1 := F1.size
  have b0 := hB1.cell (o := 0) (by omega)
  have b1 := hB1.cell (o := 1) (by omega)
  have b2 := hB1.cell (o := 2) (by omega)
  have b3 := hB1.cell (o := 3) (by omega)
  have b4 := hB1.cell (o := 4) (by omega)
  have b5 := hB1.cell (o := 5) (by omega)
  simp only [z6] at b0 b1 b2 b3 b4 b5
  have hzB := hB1.frozen
  have hlb := hB1.lt
  have ne5 : w.heap.size ≠ w1.heap.size := by omega
  have AMr := AM.rl
  clear AMr
  -- all blocks behind the check
  have hl1 : ∀ b, GAll c A P Op' cv iv b → b < w1.heap.size ∧ (R b ∨ w.heap.size < b) := fun b hb => by
    rcases hb with h | h | h | h
    · exact ⟨by have := hl0 b (.inl h); omega, .inl (hR b (.inl h))⟩
    · refine ⟨?_, (o1' b h).imp (fun h => hR b (.inr (.inl h))) id⟩
      obtain ⟨_, _, _, _, hr⟩ := R1
      exact hr.lt b h
    · exact ⟨by have := hl0 b (.inr (.inr (.inl h))); omega, .inl (hR b (.inr (.inr (.inl h))))⟩
    · exact ⟨by have := hl0 b (.inr (.inr (.inr h))); omega, .inl (hR b (.inr (.inr (.inr h))))⟩
  by_cases he : err = 0
  · subst he
    obtain ⟨X, s, m, hA, hK, rfl, rfl, rfl, rfl, rfl, rfl, rfl⟩ := K1.ok
    have hOk : GOk src X s m := ⟨hA, hK⟩
    obtain ⟨root, hroot⟩ : ∃ x, x = hdF 0 (treeOf src) := ⟨_, rfl⟩
    obtain ⟨vn, hvn⟩ : ∃ x, x = (flFs 0 (treeOf src)).length := ⟨_, rfl⟩
    obtain ⟨tn, htn⟩ : ∃ x, x = s.ty.length := ⟨_, rfl⟩
    obtain ⟨rn, hrn⟩ : ∃ x, x = s.rf.length := ⟨_, rfl⟩
    obtain ⟨fn, hfn⟩ : ∃ x, x = (X.fs.zip s.lim).length := ⟨_, rfl⟩
    rw [← hroot, ← hvn, ← htn, ← hrn, ← hfn]
    rw [← hvn, ← htn, ← hrn, ← hfn] at AM fb
    clear hvn htn hrn hfn
    have kb := (Fr.refl (fun _ => False) w1).alloc (.cells #[.slice va vn vk, .int .i64 root, .int .i64 0, .int .i64 0, .slice ta tn tk, .slice ra rn rk, .slice fa fn fk, .int .i64 (m : Nat), .int .i64 0, .int .i64 0] 69)
    have hln := cd_len hOk I
    have E2 := E1.frame kb fun _ _ => id
    have AM2 := AM.frame kb fun _ _ => id
    have q2 := E2.comp (root := root) (fun b hb => Nat.lt_of_lt_of_le (hl1 b hb).1 kb.size) hOk AM2 (fun b hb => ⟨Nat.lt_of_lt_of_le (AM.lt hb) kb.size, fun h => by
      have : (w.alloc box6).heap.size ≤ b := (fb b hb).1
      have := hl0 b (.inl h)
      omega⟩) I
    have hB2 := hB1.frame kb fun h => h
    have HX : Hid (True ∧ _) := ⟨trivial, And.intro hl1 (And.intro F01 (And.intro hRn (And.intro hs (And.intro hI (And.intro hOk (And.intro kb (And.intro hln (And.intro hB2 (And.intro hy (And.intro hyd (And.intro hRl (And.intro hR eyv))))))))))))⟩
    clear hl1 F01 hRn hs hI hOk kb hln hB2 hy hyd hRl hR eyv hA hK hroot E2 AM2 AM fb E1 hB1 R1 o1 C1 oc1 F1 hoc sz1 o1' hl0 E k0 hB E0 hsz HH K1 b0 b1 b2 b3 b4 b5 hzB
    unfold chkV at q2
    go_wp2_with fail
    refine q2.mono ?_
    rintro e w3 ⟨rfl, ⟨hd', B', eB, E3⟩, F3⟩
    clear q2
    obtain ⟨_, hl1, F01, hRn, hs, hI, hOk, kb, hln, hB2, hy, hyd, hRl, hR, eyv⟩ := HX.out
    obtain ⟨w2, hw2⟩ : ∃ w2, w2 = w1.alloc (.cells #[.slice va vn vk, .int .i64 root, .int .i64 0, .int .i64 0, .slice ta tn tk, .slice ra rn rk, .slice fa fn fk, .int .i64 (m : Nat), .int .i64 0, .int .i64 0] 69) := ⟨_, rfl⟩
    rw [← hw2] at kb hB2 E3 F3
    clear hw2 HX
    have s1 := F01.size
    have s2 := kb.size
    have s3 := F3.size
    have hPR : ∀ b, P b → R b := fun b hb => hR b (.inl hb)
    have F03 : Fr R w w3 := (F01.trans kb fun _ _ h => h.elim).trans F3 fun b _ h => hPR b h
    have hB3 := hB2.frame F3 fun h => hRn (hPR _ h)
    have hl3 : ∀ b, GAll c A (Gw P w2 w3) Op' cv iv b → b < w3.heap.size ∧ (R b ∨ w.heap.size < b) := fun b hb => by
      rcases hb with (h | h) | h | h | h
      · exact ⟨by have := (hl1 b (.inl h)).1; omega, (hl1 b (.inl h)).2⟩
      · exact ⟨h.2, .inr (by have := h.1; omega)⟩
      · exact ⟨by have := (hl1 b (.inr (.inl h))).1; omega, (hl1 b (.inr (.inl h))).2⟩
      · exact ⟨by have := (hl1 b (.inr (.inr (.inl h)))).1; omega, (hl1 b (.inr (.inr (.inl h)))).2⟩
      · exact ⟨by have := (hl1 b (.inr (.inr (.inr h)))).1; omega, (hl1 b (.inr (.inr (.inr h)))).2⟩
    have q3 := imageG E3.gx (by rw [eB]; omega) (by rw [eB]; omega)
    rw [eB] at q3
    have HX : Hid (True ∧ _) := ⟨trivial, And.intro hl3 (And.intro F03 (And.intro hRn (And.intro hs (And.intro hI (And.intro hOk (And.intro E3 (And.intro hln (And.intro hB3 (And.intro hy (And.intro hyd (And.intro hRl (And.intro hR eyv))))))))))))⟩
    clear hl1 F01 hRn hs hI hOk kb hln hB2 hy hyd hRl hR eyv E3 F3 s2 s3 hPR F03 hB3 hl3 eB
    go_wp2_with fail
    refine q3.mono ?_
    rintro e w4 ⟨xv, rfl, hBF, F4⟩
    clear q3
    obtain ⟨_, hl3, F03, hRn, hs, hI, hOk, E3, hln, hB3, hy, hyd, hRl, hR, eyv⟩ := HX.out
    have E4 := E3.frame F4 fun _ _ => id
    have hB4 := hB3.frame F4 fun h => h
    have F04 : Fr R w w4 := F03.trans F4 fun _ _ h => h.elim
    have hy4 := hy.frame F04 hyd
    have s4 := F4.size
    have K := (src_chk hOk.1 hOk.2).ok I
    have hVl : ∀ b, VQ A cv iv b → b < w3.heap.size ∧ (R b ∨ w.heap.size < b) := fun b hb => hl3 b (.inr (.inr (.inr hb)))
    have q4 := E4.rv.run (fuel := fuel) hBF.rd hy4 (by omega) hI K.by' (fun b hb h => by have := hBF.bk b hb; have := (hVl b h).1; omega) (fun b hb h => by
      rcases (hVl b h).2 with h1 | h1
      · exact hyd b hb h1
      · have := hy.bk hb; omega) hf
    have c1 : w4.cell? ⟨g, 1, none⟩ = some (.pointer (some ⟨A.m, 0, none⟩)) := by
      obtain ⟨_, _, _, _, _, Y⟩ := E4.gx
      have := Y.cl (o := 1) (by omega)
      rw [this, ← E4.h1]
      rfl
    have hgl : g < w4.heap.size := by obtain ⟨_, _, _, _, _, Y⟩ := E4.gx; exact Y.glt
    rw [eyv] at q4
    have HX2 : Hid (True ∧ _) := ⟨trivial, And.intro hl3 (And.intro F04 (And.intro hRn (And.intro hs (And.intro hI (And.intro hOk (And.intro E4 (And.intro hB4 (And.intro hRl (And.intro hR s4)))))))))⟩
    clear hl3 F03 hRn hs hI hOk E3 hln hB3 hy hyd hRl hR eyv E4 hB4 F04 hy4 s4 K hVl HX hBF F4
    go_wp2_with fail
    refine q4.mono ?_
    rintro e w5 ⟨k, cv', iv', ov, rfl, V⟩
    clear q4 c1 hgl
    obtain ⟨_, hl3, F04, hRn, hs, hI, hOk, E4, hB4, hRl, hR, s4⟩ := HX2.out
    clear HX2
    have hVR : ∀ b, VQ A cv iv b → R b := fun b hb => hR b (.inr (.inr (.inr hb)))
    have E5 := E4.ran (fun b hb => by have := (hl3 b hb).1; omega) V.rv V.fr V.cb V.ib
    have hB5 := hB4.frame V.fr fun h => hRn (hVR _ h)
    have F05 : Fr R w w5 := F04.trans V.fr fun b _ h => hVR b h
    have s5 := V.fr.size
    have s04 : w.heap.size < w4.heap.size := hB4.lt
    obtain ⟨en, hen⟩ : ∃ x, x = (itV (cdS src X s m I) I k (X1 (cdS src X s m I) fuel)).1.en := ⟨_, rfl⟩
    obtain ⟨rt, hrt⟩ : ∃ x, x = (itV (cdS src X s m I) I k (X1 (cdS src X s m I) fuel)).1.rt := ⟨_, rfl⟩
    obtain ⟨fu, hfu⟩ : ∃ x, x = (itV (cdS src X s m I) I k (X1 (cdS src X s m I) fuel)).1.fuel := ⟨_, rfl⟩
    rw [← hen, ← hrt, ← hfu]
    obtain ⟨oa, oc, eov, _⟩ := V.out.at.sl
    obtain ⟨on, hon⟩ : ∃ x, x = (itV (cdS src X s m I) I k (X1 (cdS src X s m I) fuel)).1.out.length := ⟨_, rfl⟩
    rw [← hon] at eov
    subst eov
    unfold resV
    have b0 := hB5.cell (o := 0) (by omega)
    have b1 := hB5.cell (o := 1) (by omega)
    have b2 := hB5.cell (o := 2) (by omega)
    have b3 := hB5.cell (o := 3) (by omega)
    have b4 := hB5.cell (o := 4) (by omega)
    have b5 := hB5.cell (o := 5) (by omega)
    simp only [z6] at b0 b1 b2 b3 b4 b5
    have hzB := hB5.frozen
    have hlb := hB5.lt
    have B2 := hB5.set6v (.int .i64 0) (.int .i64 0) (.int .i64 en) (.int .i64 rt) (.slice oa on oc) (.int .i64 fu)
    have F2 := (Fr.refl (fun b => b = w.heap.size) w5).set6v (b := w.heap.size) (fun _ => rfl) (.int .i64 0) (.int .i64 0) (.int .i64 en) (.int .i64 rt) (.slice oa on oc) (.int .i64 fu)
    have HF : Hid (True ∧ _) := ⟨trivial, And.intro B2 (And.intro F2 (And.intro E5 (And.intro hl3 (And.intro F05 (And.intro V (And.intro hRn (And.intro hs (And.intro hI (And.intro hOk (And.intro hen (And.intro hrt (And.intro hfu (And.intro s5 (And.intro s4 s04))))))))))))))⟩
    clear hon B2 F2 E5 hl3 F05 V hRn hs hI hOk hen hrt hfu s5 s4 E4 hB4 F04 hRl hR hVR hB5 s04
    unfold set6v at HF
    go_wp2_with fail
    obtain ⟨_, B2, F2, E5, hl3, F05, V, hRn, hs, hI, hOk, hen, hrt, hfu, s5, s4, s04⟩ := HF.out
    have q0 := B2.cell (o := 0) (by omega)
    have q1 := B2.cell (o := 1) (by omega)
    have q2 := B2.cell (o := 2) (by omega)
    have q3 := B2.cell (o := 3) (by omega)
    have q4 := B2.cell (o := 4) (by omega)
    have q5 := B2.cell (o := 5) (by omega)
    simp only [c6] at q0 q1 q2 q3 q4 q5
    refine bodyPost_ret (v := resV 0 0 en rt (.slice oa on oc) fu) (by simp [results, Tryz.results30, go_sem, resV, q0, q1, q2, q3, q4, q5]) rfl ?_
    have hl5 : ∀ b, GAll c A (Gw P w2 w3) Op' cv' iv' b → b < w5.heap.size ∧ (R b ∨ w.heap.size < b) := fun b hb => by
      rcases hb with h | h | h | (h | h) | h | h
      · exact ⟨by have := (hl3 b (.inl h)).1; omega, (hl3 b (.inl h)).2⟩
      · exact ⟨by have := (hl3 b (.inr (.inl h))).1; omega, (hl3 b (.inr (.inl h))).2⟩
      · exact ⟨by have := (hl3 b (.inr (.inr (.inl h)))).1; omega, (hl3 b (.inr (.inr (.inl h)))).2⟩
      · have q := hl3 b (.inr (.inr (.inr (.inl (.inl h)))))
        exact ⟨by have := q.1; omega, q.2⟩
      · have q := hl3 b (.inr (.inr (.inr (.inl (.inr h)))))
        exact ⟨by have := q.1; omega, q.2⟩
      · refine ⟨V.rv.lt (.inr (.inl h)), ?_⟩
        rcases V.cb b h with h1 | h1
        · exact .inr (by omega)
        · exact (hl3 b (.inr (.inr (.inr (.inr (.inl h1)))))).2
      · refine ⟨V.rv.lt (.inr (.inr h)), ?_⟩
        rcases V.ib b h with h1 | h1
        · exact .inr (by omega)
        · exact (hl3 b (.inr (.inr (.inr (.inr (.inr h1)))))).2
    refine ⟨0, 0, en, rt, fu, _, (.slice oa on oc), GAll c A (Gw P w2 w3) Op' cv' iv', rfl, .inr (.inr (.inr ⟨hs, hI, X, s, m, k, hOk, V.rr, rfl, rfl, hen, hrt, hfu, rfl⟩)), ?_, fun b hb => (hl5 b hb).2.imp id fun h => by omega, V.out.frame F2 fun b hb e => by have := (V.ob b hb).1; omega, fun b hb => ⟨by have := (V.ob b hb).1; omega, fun h => ?_⟩, F05.trans F2 fun b hb e => by omega⟩
    · refine ⟨c, p, A, _, Op', cv', iv', hd', B', E5.frame F2 fun b hb e => ?_, fun _ => id, fun b hb => Nat.lt_of_lt_of_le (hl5 b hb).1 F2.size⟩
      rcases (hl5 b hb).2 with h | h
      · exact hRn (e ▸ h)
      · omega
    · have o := V.ob b hb
      rcases h with h | h | h | (h | h) | h | h
      · have := (hl3 b (.inl h)).1; omega
      · have := (hl3 b (.inr (.inl h))).1; omega
      · have := (hl3 b (.inr (.inr (.inl h)))).1; omega
      · have := (hl3 b (.inr (.inr (.inr (.inl (.inl h)))))).1; omega
      · have := (hl3 b (.inr (.inr (.inr (.inl (.inr h)))))).1; omega
      · exact o.2.1 h
      · exact o.2.2 h
  · have y1 : (err != 0) = true := by simpa using he
    have B2 := (hB1.set6v (.int .i64 err) (.int .i64 pos) (.int .i64 0) (.int .i64 0) nilS (.int .i64 fuel)).alloc (.cells #[.slice va ns.length vk, .int .i64 root, .int .i64 0, .int .i64 0, .slice ta ty.length tk, .slice ra rf.length rk, .slice fa rs.length fk, .int .i64 main, .int .i64 err, .int .i64 pos] 69)
    have F2 := ((Fr.refl (fun b => b = w.heap.size) w1).set6v (b := w.heap.size) (fun _ => rfl) (.int .i64 err) (.int .i64 pos) (.int .i64 0) (.int .i64 0) nilS (.int .i64 fuel)).alloc (.cells #[.slice va ns.length vk, .int .i64 root, .int .i64 0, .int .i64 0, .slice ta ty.length tk, .slice ra rf.length rk, .slice fa rs.length fk, .int .i64 main, .int .i64 err, .int .i64 pos] 69)
    have HF : Hid (True ∧ _) := ⟨trivial, And.intro B2 (And.intro F2 (And.intro E1 (And.intro hl1 (And.intro F01 (And.intro K1 (And.intro he (And.intro hRn (And.intro hs hI))))))))⟩
    clear B2 F2 E1 hl1 F01 K1 he hRn hs hI R1 o1 C1 oc1 F1 AM fb hB1 hoc sz1 o1' hl0 E hR hRl hy hyd k0 hB E0 hsz eyv HH
    unfold set6v at HF
    go_wp2_with fail
    obtain ⟨_, B2, F2, E1, hl1, F01, K1, he, hRn, hs, hI⟩ := HF.out
    have q0 := B2.cell (o := 0) (by omega)
    have q1 := B2.cell (o := 1) (by omega)
    have q2 := B2.cell (o := 2) (by omega)
    have q3 := B2.cell (o := 3) (by omega)
    have q4 := B2.cell (o := 4) (by omega)
    have q5 := B2.cell (o := 5) (by omega)
    simp only [c6] at q0 q1 q2 q3 q4 q5
    refine bodyPost_ret (v := resV err pos 0 0 nilS fuel) (by simp [results, Tryz.results30, go_sem, resV, q0, q1, q2, q3, q4, q5]) rfl ?_
    refine ⟨err, pos, 0, 0, fuel, [], nilS, GAll c A P Op' cv iv, rfl, .inr (.inr (.inl ⟨hs, hI, ⟨_, _, _, _, _, _, K1, he⟩, rfl, rfl, rfl, rfl⟩)), ?_, fun b hb => (hl1 b hb).2.imp id fun h => by omega, .inl ⟨rfl, rfl⟩, fun b hb => absurd hb (nil_noB b), F01.trans F2 fun b hb e => by omega⟩
    refine ⟨c, p, A, P, Op', cv, iv, hd, B, E1.frame F2 fun b hb e => ?_, fun _ => id, fun b hb => Nat.lt_of_lt_of_le (hl1 b hb).1 F2.size⟩
    rcases (hl1 b hb).2 with h | h
    · exact hRn (e ▸ h)
    · omega
end
end Go.Proofs.Qxb6500277aGreat
