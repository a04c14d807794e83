/- Keeps: Write, the walk. -/
import Derived.Test.Qxb6500286aX12
import Derived.Test.Qxb6500286aK6
namespace Go.Proofs.Qxb6500286a
open Go Go.RowKit

structure KDk (w : World) (d : Nat) (D : Dk) : Prop where
  desk : Blk w d 9 (dkCell D)
  pat : D.pat.size ≤ 129
  sub : D.sub.size ≤ 257
theorem KDk.frame {S : Nat → Prop} {w w' : World} {d : Nat} {D : Dk} (h : KDk w d D) (k : Fr S w w') (hd : ¬ S d) : KDk w' d D := ⟨h.desk.frame k hd, h.pat, h.sub⟩
theorem KDk.setPat {w : World} {d : Nat} {D : Dk} (h : KDk w d D) (t : ByteArray) (ht : t.size ≤ 129) : KDk (w.setCell ⟨d, 0, none⟩ (.string t)) d (patD D t) := ⟨(h.desk.set 0 _).congr (dkCell_pat D t), ht, h.sub⟩
theorem KDk.setSub {w : World} {d : Nat} {D : Dk} (h : KDk w d D) (t : ByteArray) (ht : t.size ≤ 257) : KDk (w.setCell ⟨d, 1, none⟩ (.string t)) d (subD D t) := ⟨(h.desk.set 1 _).congr (dkCell_sub D t), h.pat, ht⟩
def WPostK (d : Nat) (w : World) : Ending → World → Prop := fun e w' => e = .returned (.tuple #[]) ∧ (∃ D', KDk w' d D') ∧ Fr (fun b => b = d) w w'
section
variable {w : World} {d : Nat} {D : Dk}
set_option maxRecDepth 100000 in
set_option maxHeartbeats 4000000 in
theorem writeK_text (h0 : KDk w d D) (A B C : Int) (S T : ByteArray) : Calls Try.prog 15 #[.pointer (some ⟨d, 0, none⟩), opV 1 A B C S T] w (WPostK d w) := by
  unfold opV WPostK
  have f1 := (Fr.refl (fun _ => False) w).alloc (.cells #[.int .i64 1, .int .i64 A, .int .i64 B, .int .i64 C, .string S, .string T] 37)
  have h := h0.frame f1 (fun h => h)
  have c0 : (w.alloc (.cells #[.int .i64 1, .int .i64 A, .int .i64 B, .int .i64 C, .string S, .string T] 37)).cell? ⟨d, 0, none⟩ = some (.string D.pat) := h.desk.cell (by omega)
  have c1 : (w.alloc (.cells #[.int .i64 1, .int .i64 A, .int .i64 B, .int .i64 C, .string S, .string T] 37)).cell? ⟨d, 1, none⟩ = some (.string D.sub) := h.desk.cell (by omega)
  have z0 := h.desk.frozen
  have hdl := h.desk.lt
  go_enter Try.func15, Try.ntmps15
  go_wp2_with fail
  refine wp_region_text (by kernel_rfl) (by kernel_rfl) ?_
  go_wp2_with fail
  refine (lengthen_any D.pat S h.pat _).mono ?_
  rintro e w2 ⟨⟨t, rfl, ht⟩, rfl⟩
  go_wp2_with fail
  refine ⟨by kernel_rfl, ?_⟩
  go_wp2_with fail
  first | go_end0 | refine bodyPost_ret (v := .tuple #[]) (by simp [results, Try.results15, go_sem]) rfl ?_
  have h2 := (h.setPat t ht).frame (Fr.refl (fun _ => False) _).drew (fun h => h)
  exact ⟨rfl, ⟨_, h2⟩, ((f1.mono (S' := fun b => b = d) (fun _ _ h => h.elim)).setC d 0 _ (fun _ => rfl)).drew⟩
set_option maxRecDepth 100000 in
set_option maxHeartbeats 4000000 in
theorem writeK_sub (h0 : KDk w d D) (A B C : Int) (S T : ByteArray) : Calls Try.prog 15 #[.pointer (some ⟨d, 0, none⟩), opV 2 A B C S T] w (WPostK d w) := by
  unfold opV WPostK
  have f1 := (Fr.refl (fun _ => False) w).alloc (.cells #[.int .i64 2, .int .i64 A, .int .i64 B, .int .i64 C, .string S, .string T] 37)
  have h := h0.frame f1 (fun h => h)
  have c0 : (w.alloc (.cells #[.int .i64 2, .int .i64 A, .int .i64 B, .int .i64 C, .string S, .string T] 37)).cell? ⟨d, 0, none⟩ = some (.string D.pat) := h.desk.cell (by omega)
  have c1 : (w.alloc (.cells #[.int .i64 2, .int .i64 A, .int .i64 B, .int .i64 C, .string S, .string T] 37)).cell? ⟨d, 1, none⟩ = some (.string D.sub) := h.desk.cell (by omega)
  have z0 := h.desk.frozen
  have hdl := h.desk.lt
  go_enter Try.func15, Try.ntmps15
  go_wp2_with fail
  refine wp_region_text (by kernel_rfl) (by kernel_rfl) ?_
  go_wp2_with fail
  refine (lengthenS_any D.sub S h.sub _).mono ?_
  rintro e w2 ⟨⟨t, rfl, ht⟩, rfl⟩
  go_wp2_with fail
  refine ⟨by kernel_rfl, ?_⟩
  go_wp2_with fail
  first | go_end0 | refine bodyPost_ret (v := .tuple #[]) (by simp [results, Try.results15, go_sem]) rfl ?_
  have h2 := (h.setSub t ht).frame (Fr.refl (fun _ => False) _).drew (fun h => h)
  exact ⟨rfl, ⟨_, h2⟩, ((f1.mono (S' := fun b => b = d) (fun _ _ h => h.elim)).setC d 1 _ (fun _ => rfl)).drew⟩
set_option maxRecDepth 100000 in
set_option maxHeartbeats 4000000 in
theorem writeK_fresh (h0 : KDk w d D) (A B C : Int) (S T : ByteArray) : Calls Try.prog 15 #[.pointer (some ⟨d, 0, none⟩), opV 9 A B C S T] w (WPostK d w) := by
  unfold opV WPostK
  have f1 := (Fr.refl (fun _ => False) w).alloc (.cells #[.int .i64 9, .int .i64 A, .int .i64 B, .int .i64 C, .string S, .string T] 37)
  have h := h0.frame f1 (fun h => h)
  have c0 : (w.alloc (.cells #[.int .i64 9, .int .i64 A, .int .i64 B, .int .i64 C, .string S, .string T] 37)).cell? ⟨d, 0, none⟩ = some (.string D.pat) := h.desk.cell (by omega)
  have c1 : (w.alloc (.cells #[.int .i64 9, .int .i64 A, .int .i64 B, .int .i64 C, .string S, .string T] 37)).cell? ⟨d, 1, none⟩ = some (.string D.sub) := h.desk.cell (by omega)
  have z0 := h.desk.frozen
  have hdl := h.desk.lt
  go_enter Try.func15, Try.ntmps15
  go_wp2_with fail
  first | go_end0 | refine bodyPost_ret (v := .tuple #[]) (by simp [results, Try.results15, go_sem]) rfl ?_
  have h2 := (h.setPat ⟨#[]⟩ (by show (0 : Nat) ≤ 129; omega)).setSub ⟨#[]⟩ (by show (0 : Nat) ≤ 257; omega)
  exact ⟨rfl, ⟨_, h2⟩, ((f1.mono (S' := fun b => b = d) (fun _ _ h => h.elim)).setC d 0 _ (fun _ => rfl)).setC d 1 _ (fun _ => rfl)⟩
set_option maxRecDepth 100000 in
set_option maxHeartbeats 4000000 in
theorem writeK_other (h0 : KDk w d D) (kind A B C : Int) (S T : ByteArray) (h1 : kind ≠ 1) (h2 : kind ≠ 2) (h9 : kind ≠ 9) : Calls Try.prog 15 #[.pointer (some ⟨d, 0, none⟩), opV kind A B C S T] w (WPostK d w) := by
  unfold opV WPostK
  have f1 := (Fr.refl (fun _ => False) w).alloc (.cells #[.int .i64 kind, .int .i64 A, .int .i64 B, .int .i64 C, .string S, .string T] 37)
  have h := h0.frame f1 (fun h => h)
  have t1 : (kind == 1) = false := by simpa using h1
  have t2 : (kind == 2) = false := by simpa using h2
  have t9 : (kind == 9) = false := by simpa using h9
  clear h1 h2 h9
  go_enter Try.func15, Try.ntmps15
  go_wp2_with fail
  first | go_end0 | refine bodyPost_ret (v := .tuple #[]) (by simp [results, Try.results15, go_sem]) rfl ?_
  exact ⟨rfl, ⟨_, h⟩, f1.mono (fun _ _ h => h.elim)⟩
theorem writeK_any (h : KDk w d D) (kind A B C : Int) (S T : ByteArray) : Calls Try.prog 15 #[.pointer (some ⟨d, 0, none⟩), opV kind A B C S T] w (WPostK d w) := by
  by_cases h1 : kind = 1
  · subst h1; exact writeK_text h A B C S T
  · by_cases h2 : kind = 2
    · subst h2; exact writeK_sub h A B C S T
    · by_cases h9 : kind = 9
      · subst h9; exact writeK_fresh h A B C S T
      · exact writeK_other h kind A B C S T h1 h2 h9
end
theorem core_sound {p : ByteArray} {o : Ans} {v : Ending} {w w1 : World} (hM : ModelL p o) (hP : ParsePost w (coreO o) v w1) : ∃ va vn vc y g e q, v = .returned (.agg #[.slice va vn vc, .int .i64 y, .int .i64 g, .int .i64 e, .int .i64 q]) ∧ ∀ w', Fr (fun _ => False) w1 w' → Calls Try.prog 13 #[.agg #[.slice va vn vc, .int .i64 y, .int .i64 g, .int .i64 e, .int .i64 q]] w' fun e w'' => e = .returned (.bool true) ∧ Fr (fun _ => False) w' w'' := by
  cases o with
  | error e =>
    exact ⟨_, _, _, _, _, _, _, hP, fun w' _ => sound_err (ModelL.err hM) e.2 w'⟩
  | ok t =>
    obtain ⟨ns, y, g⟩ := t
    by_cases hz : 31 < (zz ns y).2
    · rw [show coreO (.ok (ns, y, g)) = .error (8, 0) from if_pos hz] at hP
      exact ⟨_, _, _, _, _, _, _, hP, fun w' _ => sound_err (by decide) 0 w'⟩
    · rw [show coreO (.ok (ns, y, g)) = .ok (coreL ns y, (coreL ns y).length - 1, g) from if_neg hz] at hP
      obtain ⟨b, hb, hv, f, hbB, hbf⟩ := hP
      have hK := keepOk hM
      obtain ⟨hT, hg⟩ := ModelL.tree hM
      have hcl := coreL_len hT (by omega)
      refine ⟨_, _, _, _, _, _, _, hv, fun w' hf => ?_⟩
      exact sound_ok ((hbf.at hbB (Nat.le_refl _)).frame hf (fun h => h)) (by have := hf.size; have := hbB.lt; omega) hcl.1 hcl.2 hg hK.wf hK.chk
structure KInv (w : World) (lo s x xg bg d : Nat) (D : Dk) : Prop where
  real : SAny w s x
  par : RAny w xg ⟨#[]⟩
  box : Blk w bg 1 (fun _ => .pointer (some ⟨xg, 0, none⟩))
  desk : KDk w d D
  n1 : xg ≠ x
  n2 : ¬ SAt s xg
  n3 : bg ≠ x ∧ ¬ SAt s bg ∧ bg ≠ xg
  n4 : d ≠ x ∧ ¬ SAt s d ∧ d ≠ xg ∧ d ≠ bg
  lo1 : lo ≤ s ∧ lo ≤ x ∧ lo ≤ xg ∧ lo ≤ d
theorem KInv.frame {w w' : World} {lo s x xg bg d : Nat} {D : Dk} (h : KInv w lo s x xg bg d D) (k : Fr (fun _ => False) w w') : KInv w' lo s x xg bg d D :=
  ⟨h.real.frame k (fun h => h) (fun _ _ h => h), h.par.frame k (fun h => h), h.box.frame k (fun h => h), h.desk.frame k (fun h => h), h.n1, h.n2, h.n3, h.n4, h.lo1⟩
theorem KInv.core {w w' : World} {lo s x xg bg d : Nat} {D : Dk} (h : KInv w lo s x xg bg d D) (hA : SAny w' s x) (k : Fr (fun b => b = x ∨ SAt s b) w w') : KInv w' lo s x xg bg d D :=
  ⟨hA, h.par.frame k (fun e => e.elim h.n1 h.n2), h.box.frame k (fun e => e.elim h.n3.1 h.n3.2.1), h.desk.frame k (fun e => e.elim h.n4.1 h.n4.2.1), h.n1, h.n2, h.n3, h.n4, h.lo1⟩
theorem KInv.mean {w w' : World} {lo s x xg bg d : Nat} {D : Dk} (h : KInv w lo s x xg bg d D) (hA : SAny w' s x) (hG : RAny w' xg ⟨#[]⟩) (k : Fr (fun b => b = x ∨ SAt s b ∨ b = xg) w w') : KInv w' lo s x xg bg d D :=
  ⟨hA, hG, h.box.frame k (fun e => e.elim h.n3.1 (fun e => e.elim h.n3.2.1 h.n3.2.2)), h.desk.frame k (fun e => e.elim h.n4.1 (fun e => e.elim h.n4.2.1 h.n4.2.2.1)), h.n1, h.n2, h.n3, h.n4, h.lo1⟩
theorem KInv.write {w w' : World} {lo s x xg bg d : Nat} {D D' : Dk} (h : KInv w lo s x xg bg d D) (hD : KDk w' d D') (k : Fr (fun b => b = d) w w') : KInv w' lo s x xg bg d D' :=
  ⟨h.real.frame k (fun e => h.n4.1 e.symm) (fun _ hb e => h.n4.2.1 (e ▸ hb)), h.par.frame k (fun e => h.n4.2.2.1 e.symm), h.box.frame k (fun e => h.n4.2.2.2 e.symm), hD, h.n1, h.n2, h.n3, h.n4, h.lo1⟩
theorem kinv0 {w3 : World} {lo s x xg bg : Nat} (hx : SAny w3 s x) (hg : RAny w3 xg ⟨#[]⟩) (hb : Blk w3 bg 1 (fun _ => .pointer (some ⟨xg, 0, none⟩))) (h0 : lo ≤ x) (h1 : x < s) (h2 : s + 5 < xg) (h3 : xg < bg) (h4 : bg < w3.heap.size) : KInv (w3.alloc deskO) lo s x xg bg w3.heap.size desk0 := by
  have k := (Fr.refl (fun _ => False) w3).alloc deskO
  refine ⟨hx.frame k (fun h => h) (fun _ _ h => h), hg.frame k (fun h => h), hb.frame k (fun h => h), ⟨?_, by show (0 : Nat) ≤ 129; omega, by show (0 : Nat) ≤ 257; omega⟩, by omega, by unfold SAt; omega, by unfold SAt; omega, by unfold SAt; omega, by omega⟩
  refine Blk.new w3 _ _ _ fun o ho => ?_
  rcases (show o = 0 ∨ o = 1 ∨ o = 2 ∨ o = 3 ∨ o = 4 ∨ o = 5 ∨ o = 6 ∨ o = 7 ∨ o = 8 by simp at ho; omega) with rfl | rfl | rfl | rfl | rfl | rfl | rfl | rfl | rfl <;> rfl
set_option maxRecDepth 100000 in
set_option maxHeartbeats 16000000 in
theorem keepsUpTo_any {w : World} {a : Option Addr} {n cap : Nat} (hs : ScrAt w a n) :
    Calls Try.prog 6 #[.slice a n cap] w fun e w' => e = .returned (.int .i64 (-1)) ∧ Fr (fun _ => False) w w' := by
  go_enter Try.func6, Try.ntmps6
  go_wp2_with fail
  refine (ground_any _).mono ?_
  rintro e w1 ⟨x, rfl, hxlo, hrep, f1⟩
  have hxl := hrep.lt
  have fx := f1.alloc (.cells #[.pointer (some ⟨x, 0, none⟩)] 27)
  have hrep1 := hrep.alloc27 (.cells #[.pointer (some ⟨x, 0, none⟩)] 27)
  go_wp2_with fail
  refine (new_any hrep1).mono ?_
  rintro e w2 ⟨rfl, hA2, f2⟩
  have hw2 := hA2.lt
  simp only [World.size_alloc] at hA2 hw2
  go_wp2_with fail
  refine (ground_any _).mono ?_
  rintro e w3 ⟨xg, rfl, hglo, hrepG, f3⟩
  have hgl := hrepG.lt
  have hbx : Blk (w3.alloc (.cells #[.pointer (some ⟨xg, 0, none⟩)] 27)) w3.heap.size 1 (fun _ => .pointer (some ⟨xg, 0, none⟩)) := Blk.new w3 _ _ _ fun o ho => by
    obtain rfl : o = 0 := by simpa using ho
    rfl
  have f4 := (Fr.refl (fun _ => False) w3).alloc (.cells #[.pointer (some ⟨xg, 0, none⟩)] 27)
  have hs1 := f1.size
  have fw4 := ((fx.trans f2 (fun _ _ h => h)).trans f3 (fun _ _ h => h)).trans f4 (fun _ _ h => h)
  have hL0 := kinv0 (lo := w.heap.size) (s := w1.heap.size + 1) (x := x) (xg := xg) (bg := w3.heap.size) ((hA2.frame f3 (fun h => h) (fun _ _ h => h)).frame f4 (fun h => h) (fun _ _ h => h)) (hrepG.frame f4 (fun h => h)) hbx (by omega) (by omega) (by omega) (by omega) (by rw [World.size_alloc]; omega)
  have fw5 := fw4.alloc deskO
  unfold deskO at hL0 fw5
  simp only [World.size_alloc] at hL0
  go_wp2_with fail
  go_loopg [7] n (fun g kv wr => ∃ k : Nat, kv = .int .i64 k ∧ k + g = n ∧ k ≤ 4398046511104 ∧ (∃ D, KInv wr w.heap.size (w1.heap.size + 1) x xg w3.heap.size (w3.heap.size + 1) D) ∧ Fr (fun _ => False) w wr)
  case atStart => exact ⟨0, rfl, by omega, by omega, ⟨_, hL0⟩, fw5⟩
  case round =>
    obtain ⟨k, rfl, hkg, hk42, ⟨D, hL⟩, hfr⟩ := hrel
    have hkg' : k + gk = n := hkg
    clear hkg
    have Hk42 : Hid _ := hk42
    clear hk42
    have hkb : (k : Int) < 140737488355328 := by have := Hk42.out; omega
    by_cases hlt : k < n
    · by_cases hlt2 : (k : Int) < 4398046511104
      · rcases hs with h0 | ⟨b, off, rfl, hb, hcells⟩
        · exact absurd hlt (by omega)
        obtain ⟨kind, A, B, C, S, T, c0, c1, c2, c3, c4, c5⟩ := hcells k hlt
        rw [← hfr.cell (p := ⟨b, off + k * 6, none⟩) hb (by simp)] at c0
        rw [← hfr.cell (p := ⟨b, off + k * 6 + 1, none⟩) hb (by simp)] at c1
        rw [← hfr.cell (p := ⟨b, off + k * 6 + 2, none⟩) hb (by simp)] at c2
        rw [← hfr.cell (p := ⟨b, off + k * 6 + 3, none⟩) hb (by simp)] at c3
        rw [← hfr.cell (p := ⟨b, off + k * 6 + 4, none⟩) hb (by simp)] at c4
        rw [← hfr.cell (p := ⟨b, off + k * 6 + 5, none⟩) hb (by simp)] at c5
        clear hcells
        have hbr : b < wr.heap.size := by have := hfr.size; omega
        have fO := (Fr.refl (fun _ => False) wr).alloc (.cells #[.int .i64 kind, .int .i64 A, .int .i64 B, .int .i64 C, .string S, .string T] 37)
        have hLo := hL.frame fO
        have d0 : (wr.alloc (.cells #[.int .i64 kind, .int .i64 A, .int .i64 B, .int .i64 C, .string S, .string T] 37)).cell? ⟨w3.heap.size + 1, 0, none⟩ = some (.string D.pat) := hLo.desk.desk.cell (by omega)
        have d1 : (wr.alloc (.cells #[.int .i64 kind, .int .i64 A, .int .i64 B, .int .i64 C, .string S, .string T] 37)).cell? ⟨w3.heap.size + 1, 1, none⟩ = some (.string D.sub) := hLo.desk.desk.cell (by omega)
        have ld := hLo.desk.desk.lt
        have hbx := hLo.box
        have bx0 := hbx.cell (o := 0) (by omega)
        have bxl := hbx.lt
        have hLd := hLo.frame (Fr.refl (fun _ => False) _).drew
        by_cases k3 : kind = 3
        · subst k3
          have HLd : Hid _ := hLd
          clear hLd
          go_wp2_with fail
          refine wp_region_text (by kernel_rfl) (by kernel_rfl) ?_
          go_wp2_with fail
          refine (lengthen_any D.pat S hL.desk.pat _).mono ?_
          rintro e w2' ⟨⟨t, rfl, ht⟩, rfl⟩
          go_wp2_with fail
          refine ⟨by kernel_rfl, ?_⟩
          go_wp2_with fail
          refine (core_any HLd.out.real t).mono ?_
          rintro v w6 ⟨o, hM, hP, hA6, f6⟩
          obtain ⟨va, vn, vc, ty, tg, te, tq, rfl, hSo⟩ := core_sound hM hP
          have fT := (Fr.refl (fun _ => False) w6).alloc (.cells #[.slice va vn vc, .int .i64 ty, .int .i64 tg, .int .i64 te, .int .i64 tq] 41)
          have HSo : Hid _ := hSo _ fT
          have hL6 := (HLd.out.core hA6 f6).frame fT
          clear hSo hM hP
          go_wp2_with fail
          refine Calls.mono HSo.out ?_
          rintro v w7 ⟨rfl, f7⟩
          have fOd := fO.drew
          have F7 := ((hfr.trans fOd (fun _ _ h => h)).trans f6 (fun b hb h => by have := hL.lo1; unfold SAt at h; omega)).trans (fT.trans f7 (fun _ _ h => h)) (fun _ _ h => h)
          go_wp2_with fail
          go_roundg (gk - 1)
          case measure => omega
          case rel => exact ⟨k + 1, by simp, by omega, by omega, ⟨D, hL6.frame f7⟩, F7⟩
        · by_cases k5 : kind = 5
          · subst k5
            have HLd : Hid _ := hLd
            clear hLd k3
            go_wp2_with fail
            refine wp_region_text (by kernel_rfl) (by kernel_rfl) ?_
            go_wp2_with fail
            refine (sameMeaning_any HLd.out.real HLd.out.par HLd.out.n1 HLd.out.n2 D.pat D.sub A).mono ?_
            rintro v w6 ⟨rfl, hA6, hG6, f6⟩
            have hL6 := HLd.out.mean hA6 hG6 f6
            have fOd := fO.drew
            have F7 := (hfr.trans fOd (fun _ _ h => h)).trans f6 (fun b hb h => by have := hL.lo1; unfold SAt at h; omega)
            go_wp2_with fail
            refine ⟨by kernel_rfl, ?_⟩
            go_wp2_with fail
            go_roundg (gk - 1)
            case measure => omega
            case rel => exact ⟨k + 1, by simp, by omega, by omega, ⟨D, hL6⟩, F7⟩
          · have t3 : (kind == 3) = false := by simpa using k3
            have t5 : (kind == 5) = false := by simpa using k5
            have hWr := writeK_any hLo.desk kind A B C S T
            unfold opV at hWr
            have HW : Hid _ := hWr
            have HLo : Hid _ := hLo
            clear k3 k5 hWr hLd hLo
            go_wp2_with fail
            refine Calls.mono HW.out ?_
            rintro v w6 ⟨rfl, ⟨D', hD'⟩, f6⟩
            have hL6 := HLo.out.write hD' f6
            have F7 := (hfr.trans fO (fun _ _ h => h)).trans f6 (fun b hb h => by have := hL.lo1; omega)
            go_wp2_with fail
            go_roundg (gk - 1)
            case measure => omega
            case rel => exact ⟨k + 1, by simp, by omega, by omega, ⟨D', hL6⟩, F7⟩
      · have hk3 : (4398046511104 : Int) ≤ k := Int.not_lt.1 hlt2
        have Hlt : Hid _ := hlt
        have Hkg : Hid _ := hkg'
        have hlt' : (k : Int) < n := by omega
        have q1 : decide ((k : Int) < 4398046511104) = false := decide_eq_false (Int.not_lt.2 hk3)
        clear hlt2 hlt hkg' hk3
        go_wp2_with fail
        go_ret
        exact ⟨rfl, hfr⟩
    · have hkn : k = n := by omega
      go_wp2_with fail
      go_ret
      exact ⟨rfl, hfr⟩
set_option maxHeartbeats 400000 in
theorem keeps_any {w : World} {a : Option Addr} {n cap : Nat} (hs : ScrAt w a n) :
    Calls Try.prog 3 #[.slice a n cap] w fun e w' => e = .returned (.bool true) ∧ Fr (fun _ => False) w w' := by
  go_enter Try.func3, Try.ntmps3
  go_wp2_with fail
  refine (keepsUpTo_any hs).mono ?_
  rintro e w1 ⟨rfl, f1⟩
  go_wp2
  go_ret
  exact ⟨rfl, f1⟩
end Go.Proofs.Qxb6500286a
