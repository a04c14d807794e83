/- compile: the template's pieces. -/
import Derived.Test.Qxb6500283aGreatHF2a
namespace Go.Proofs.Qxb6500283aGreat
open Go Go.RowKit

/-- One token of a template. -/
inductive Tok (t : ByteArray) : Nat → List Pc → Nat → List Pc → Prop
  | lit {i : Nat} {ps ps' : List Pc} (h : i < t.size) : t[i].toNat ≠ 36 → Lit i (i + 1) ps ps' → Tok t i ps (i + 1) ps'
  | dol {i : Nat} {ps ps' : List Pc} (h : i + 1 < t.size) : t[i].toNat = 36 → t[i + 1].toNat = 36 → Lit (i + 1) (i + 2) ps ps' → Tok t i ps (i + 2) ps'
  | grp {i : Nat} {ps : List Pc} (h : i + 1 < t.size) : t[i].toNat = 36 → 48 ≤ t[i + 1].toNat → t[i + 1].toNat ≤ 51 → Tok t i ps (i + 2) (ps ++ [⟨0, 0, (t[i + 1].toNat : Int) - 48⟩])
inductive Toks (t : ByteArray) : Nat → List Pc → Prop
  | nil : Toks t 0 []
  | step {i i' : Nat} {ps ps' : List Pc} : Toks t i ps → Tok t i ps i' ps' → Toks t i' ps'
/-- A '$' at i that says nothing. -/
def BadAt (t : ByteArray) (i : Nat) : Prop := ∃ h : i < t.size, t[i].toNat = 36 ∧ ∀ h2 : i + 1 < t.size, t[i + 1].toNat ≠ 36 ∧ (t[i + 1].toNat < 48 ∨ 51 < t[i + 1].toNat)
theorem Lit.len {lo hi : Nat} {ps ps' : List Pc} (h : Lit lo hi ps ps') : ps'.length ≤ ps.length + 1 := by
  cases h <;> simp
theorem Tok.len {t : ByteArray} {i i' : Nat} {ps ps' : List Pc} (h : Tok t i ps i' ps') : ps'.length ≤ ps.length + 1 ∧ i < i' ∧ i' ≤ t.size := by
  cases h with
  | lit h1 h2 h3 => have := h3.len; omega
  | dol h1 h2 h3 h4 => have := h4.len; omega
  | grp h1 h2 h3 h4 => simp; omega
theorem Toks.len {t : ByteArray} {i : Nat} {ps : List Pc} (h : Toks t i ps) : ps.length ≤ i ∧ i ≤ t.size := by
  induction h with
  | nil => simp
  | step h1 h2 ih => have := h2.len; omega
/-- What compile answers: the pieces, or the place of the bad '$'. -/
inductive CompT (t : ByteArray) : Int → List Pc → Prop
  | ok {ps : List Pc} : Toks t t.size ps → CompT t (-1) ps
  | bad {i : Nat} {ps : List Pc} : Toks t i ps → BadAt t i → CompT t (i : Nat) ps
theorem PMem.frame {S : Nat → Prop} {w w' : World} {fb e sb n pb : Nat} {ps : List Pc} (h : PMem w fb e sb n pb ps) (k : Fr S w w') (h1 : ¬ S fb) (h2 : ¬ S pb) : PMem w' fb e sb n pb ps := by
  obtain ⟨a, ⟨f, b, c⟩, d, e⟩ := h
  exact ⟨a.frame k h1, ⟨f, b.frame k h2, c⟩, d, e⟩
set_option maxRecDepth 100000 in
set_option maxHeartbeats 8000000 in
theorem compile_any {w : World} {fb e sb n pb : Nat} {ps0 : List Pc} (h : PMem w fb e sb n pb ps0) (t : ByteArray) (ht : t.size ≤ 32) :
    Calls Tryz.prog 62 #[.pointer (some ⟨fb, 0, none⟩), .string t] w fun v w' => ∃ r ps, v = .returned (.int .i64 r) ∧ CompT t r ps ∧ PMem w' fb e sb n pb ps ∧ Fr (fun c => c = fb ∨ c = pb) w w' := by
  have htb : (t.size : Int) ≤ 32 := by omega
  have c4 := h.fd.cell (o := 4) (by omega)
  have zf := h.fd.frozen
  have lf := h.fd.lt
  have hfd := (h.fd.set 4 (.int .i64 0)).congr (fdCell_np e sb n pb _ 0)
  have F0 := (Fr.refl (fun c => c = fb ∨ c = pb) w).setC fb 4 (.int .i64 0) (fun _ => .inl rfl)
  have hM : PMem (w.setCell ⟨fb, 4, none⟩ (.int .i64 0)) fb e sb n pb [] := by
    obtain ⟨f, hb, hf⟩ := h.pc
    exact ⟨hfd, ⟨f, hb.setOther ⟨fb, 4, none⟩ (.int .i64 0) (fun e => h.ne e.symm), fun i hi => by simp at hi⟩, h.ne, by simp⟩
  go_enter Tryz.func62, Tryz.ntmps62
  go_wp2_with fail
  clear c4 zf lf hfd
  go_loopg [5] t.size (fun g iv wr => ∃ (i : Nat) (ps : List Pc), iv = .int .i64 i ∧ i + g = t.size ∧ Toks t i ps ∧ PMem wr fb e sb n pb ps ∧ Fr (fun c => c = fb ∨ c = pb) w wr)
  case atStart => exact ⟨0, [], rfl, by omega, .nil, hM, F0⟩
  case round =>
    obtain ⟨i, ps, rfl, hg, hT, hP, hfr⟩ := hrel
    have hg' : i + gk = t.size := hg
    clear hg hM F0
    have hl := hT.len
    have HT : Hid _ := hT
    clear hT
    by_cases hlt : i < t.size
    · have hI : decide ((i : Int) < t.size) = true := decide_eq_true (by omega)
      have hib : (i : Int) ≤ 31 := by omega
      by_cases h36 : t[i].toNat = 36
      · by_cases h1 : i + 1 < t.size
        · have t0 : (t[i].toNat != 36) = false := by simpa using h36
          have t0' : ((t[i].toNat : Int) != 36) = false := by simpa using (show (t[i].toNat : Int) = 36 by omega)
          have hI1 : decide ((i : Int) + 1 < t.size) = true := decide_eq_true (by omega)
          have hJ : decide ((t.size : Int) ≤ (i : Int) + 1) = false := decide_eq_false (by omega)
          by_cases hd : t[i + 1].toNat = 36
          · have t2 : (t[i + 1].toNat == 36) = true := by simpa using hd
            have t2' : ((t[i + 1].toNat : Int) == 36) = true := by simpa using (show (t[i + 1].toNat : Int) = 36 by omega)
            go_wp2_with fail
            refine (literal_any hP (i + 1) (i + 2) (by omega)).mono ?_
            rintro v w2 ⟨rfl, ps', hL, hP2, f2⟩
            go_wp2_with fail
            go_roundg (gk - 2)
            case measure => omega
            case rel => exact ⟨i + 2, ps', by simp, by omega, HT.out.step (.dol h1 h36 hd hL), hP2, hfr.trans f2 (fun _ _ h => h)⟩
          · have t2 : (t[i + 1].toNat == 36) = false := by simpa using hd
            have t2' : ((t[i + 1].toNat : Int) == 36) = false := by simpa using (fun e : (t[i + 1].toNat : Int) = 36 => hd (by omega))
            by_cases hq : 48 ≤ t[i + 1].toNat
            · have t3 : decide (48 ≤ (t[i + 1].toNat : Int)) = true := decide_eq_true (by omega)
              by_cases hq2 : t[i + 1].toNat ≤ 51
              · have t4 : decide ((t[i + 1].toNat : Int) ≤ 51) = true := decide_eq_true (by omega)
                obtain ⟨hfd, ⟨f, hb, hf⟩, hne, hle⟩ := hP
                have c3 := hfd.cell (o := 3) (by omega)
                have c4 := hfd.cell (o := 4) (by omega)
                simp only [fdCell] at c3 c4
                have zf := hfd.frozen
                have zp := hb.frozen
                have lf := hfd.lt
                have lp := hb.lt
                have hkb : (ps.length : Int) ≤ 31 := by omega
                have p0 := hb.cell (o := ps.length * 3) (by omega)
                have p1 := hb.cell (o := ps.length * 3 + 1) (by omega)
                have p2 := hb.cell (o := ps.length * 3 + 2) (by omega)
                go_wp2_with fail
                refine wp_region_text (by kernel_rfl) (by kernel_rfl) ?_
                go_wp2_with fail
                refine ⟨by kernel_rfl, ?_⟩
                go_wp2_with fail
                have hP2 := hf.push ⟨0, 0, ((t[i + 1].toNat : Int) - 48)⟩ (.int .i64 0) (.int .i64 0) (.int .i64 ((t[i + 1].toNat : Int) - 48)) rfl rfl rfl
                have key := (((hb.set (ps.length * 3) (.int .i64 0)).set (ps.length * 3 + 1) (.int .i64 0)).set (ps.length * 3 + 2) (.int .i64 ((t[i + 1].toNat : Int) - 48))).setOther ⟨fb, 4, none⟩ (.int .i64 ((ps.length : Int) + 1)) (fun e => hne e.symm)
                have FR := (((hfr.setC pb (ps.length * 3) (.int .i64 0) (fun _ => .inr rfl)).setC pb (ps.length * 3 + 1) (.int .i64 0) (fun _ => .inr rfl)).setC pb (ps.length * 3 + 2) (.int .i64 ((t[i + 1].toNat : Int) - 48)) (fun _ => .inr rfl)).setC fb 4 (.int .i64 ((ps.length : Int) + 1)) (fun _ => .inl rfl)
                have hfd2 := ((((hfd.setOther ⟨pb, ps.length * 3, none⟩ (.int .i64 0) hne).setOther ⟨pb, ps.length * 3 + 1, none⟩ (.int .i64 0) hne).setOther ⟨pb, ps.length * 3 + 2, none⟩ (.int .i64 ((t[i + 1].toNat : Int) - 48)) hne).set 4 (.int .i64 ((ps.length : Int) + 1))).congr (fdCell_np e sb n pb _ (ps.length + 1))
                have hlen2 : (ps ++ [(⟨0, 0, ((t[i + 1].toNat : Int) - 48)⟩ : Pc)]).length = ps.length + 1 := by simp
                go_roundg (gk - 2)
                case measure => omega
                case rel => exact ⟨i + 2, _, by simp, by omega, HT.out.step (.grp h1 h36 hq hq2), ⟨by rw [hlen2]; exact hfd2.drew, ⟨_, key.drew, hP2⟩, hne, by omega⟩, FR.drew⟩
              · have t4 : decide ((t[i + 1].toNat : Int) ≤ 51) = false := decide_eq_false (by omega)
                go_wp2_with fail
                go_ret
                exact ⟨_, ps, rfl, .bad HT.out ⟨hlt, h36, fun _ => ⟨hd, .inr (by omega)⟩⟩, hP, hfr⟩
            · have t3 : decide (48 ≤ (t[i + 1].toNat : Int)) = false := decide_eq_false (by omega)
              go_wp2_with fail
              go_ret
              exact ⟨_, ps, rfl, .bad HT.out ⟨hlt, h36, fun _ => ⟨hd, .inl (by omega)⟩⟩, hP, hfr⟩
        · have t0 : (t[i].toNat != 36) = false := by simpa using h36
          have t0' : ((t[i].toNat : Int) != 36) = false := by simpa using (show (t[i].toNat : Int) = 36 by omega)
          have hJ : decide ((t.size : Int) ≤ (i : Int) + 1) = true := decide_eq_true (by omega)
          go_wp2_with fail
          go_ret
          exact ⟨_, ps, rfl, .bad HT.out ⟨hlt, h36, fun h2 => absurd h2 h1⟩, hP, hfr⟩
      · have t1 : (t[i].toNat != 36) = true := by simpa using h36
        have t1' : ((t[i].toNat : Int) != 36) = true := by simpa using (fun e : (t[i].toNat : Int) = 36 => h36 (by omega))
        go_wp2_with fail
        refine (literal_any hP i (i + 1) (by omega)).mono ?_
        rintro v w2 ⟨rfl, ps', hL, hP2, f2⟩
        go_wp2_with fail
        go_roundg (gk - 1)
        case measure => omega
        case rel => exact ⟨i + 1, ps', by simp, by omega, HT.out.step (.lit hlt h36 hL), hP2, hfr.trans f2 (fun _ _ h => h)⟩
    · have hI : decide ((i : Int) < t.size) = false := decide_eq_false (by omega)
      go_wp2_with fail
      go_ret
      have : i = t.size := by omega
      exact ⟨_, ps, rfl, .ok (this ▸ HT.out), hP, hfr⟩
end Go.Proofs.Qxb6500283aGreat
