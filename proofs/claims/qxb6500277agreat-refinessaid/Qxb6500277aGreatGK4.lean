/- The code generator: jumpsFine. -/
import Derived.Test.Qxb6500277aGreatGK3
namespace Go.Proofs.Qxb6500277aGreat
open Go Go.RowKit

set_option maxRecDepth 100000 in
set_option maxHeartbeats 2000000 in
theorem jumpsK {w : World} {g ab : Nat} {P : Nat → Prop} {hd : Nat → Value} {B : Gb} (h : GX w g P hd B) (K : CkB B) (M : MkS w ab B.code.length B.code B.code.length) : Calls Tryz.prog 28 #[.pointer (some ⟨g, 0, none⟩), .slice (some ⟨ab, 0, none⟩) B.code.length B.code.length] w fun e w' => e = .returned (.bool true) ∧ Fr (fun _ => False) w w' := by
  obtain ⟨cv, hv, xv, ev, col, H⟩ := h
  obtain ⟨ca, cc, hce, hcc⟩ := H.code.sl
  have hle := K.le
  have HH : Hid (True ∧ _) := ⟨trivial, And.intro H (And.intro K (And.intro hce M))⟩
  obtain ⟨n, hn⟩ : ∃ n, n = B.code.length := ⟨_, rfl⟩
  have Hn : Hid (True ∧ _) := ⟨trivial, hn⟩
  rw [← hn] at hle
  rw [← hn]
  clear H K hce hn hcc M
  go_enter Tryz.func28, Tryz.ntmps28
  go_wp2_with fail
  go_loopg [5] n (fun gm pv wr => ∃ pc : Nat, pv = .int .i64 (pc : Nat) ∧ pc ≤ n ∧ pc + gm = n ∧ Fr (fun _ => False) w wr)
  case atStart => exact ⟨0, rfl, by omega, by omega, Fr.refl _ _⟩
  case round =>
    obtain ⟨pc, rfl, hpn, hg, Fw⟩ := hrel
    have hg' : pc + gk = n := hg
    clear hg
    obtain ⟨_, H, K, hce, M⟩ := HH.out
    obtain ⟨_, hn⟩ := Hn.out
    have Hr := H.same Fw
    have c12 : wr.cell? ⟨g, 12, none⟩ = some cv := Hr.cl (o := 12) (by omega)
    have hlt := Hr.glt
    by_cases hp : pc < n
    · have z0 : decide ((pc : Int) < (n : Nat)) = true := decide_eq_true (by omega)
      obtain ⟨cb, cc', ecv, hcl, hcs⟩ := Hr.code.all (by omega)
      have c0 := hcs pc (by omega)
      rw [ecv, ← hn] at c12
      have Mr := M.frame Fw fun h => h
      rw [← hn] at Mr
      obtain ⟨f, h1, h2⟩ := Mr
      obtain ⟨β, eβ, hβ⟩ := h2 pc hp
      have d0 := h1.cell hp
      rw [eβ] at d0
      have hlA := h1.lt
      cases β with
      | false =>
        have HQ : Hid (True ∧ _) := ⟨trivial, Fw⟩
        clear H K hce M hn Hr ecv hcs h1 h2 eβ hβ Fw c0
        go_wp2_with fail
        go_roundg (gk - 1)
        case measure => omega
        case rel => exact ⟨pc + 1, by simp, by omega, by omega, HQ.out.2⟩
      | true =>
        have hch : ChA B.code pc := (hβ.1 rfl).1
        have hfin := K.fin pc (by omega) hch
        have q := u16K Hr.code K.by' (by have := K.le; omega) (pc + 1) (by omega)
        rw [ecv, ← hn] at q
        have e1 : ((pc + 1 : Nat) : Int) = (pc : Int) + 1 := by omega
        rw [e1] at q
        have HQ : Hid (True ∧ _) := ⟨trivial, And.intro Fw (And.intro hch (And.intro hfin (And.intro hcs (And.intro h1 (And.intro h2 (And.intro K (And.intro M (And.intro H ecv))))))))⟩
        clear H K hce M hn Hr ecv hcs h1 h2 eβ hβ Fw hch hfin c0 e1
        go_wp2_with fail
        refine q.mono ?_
        rintro v w5 ⟨x, rfl, hx, j, rfl⟩
        clear q c12 d0 hlA hlt hcl z0
        obtain ⟨_, Fw, hch, hfin, hcs, h1, h2, K, M, H, ecv⟩ := HQ.out
        obtain ⟨_, hn⟩ := Hn.out
        obtain ⟨w5, hw5⟩ : ∃ w5, w5 = wr.drewN j := ⟨_, rfl⟩
        have k5 : Fr (fun _ => False) wr w5 := by rw [hw5]; exact (Fr.refl _ wr).drewN _
        rw [← hw5]
        have F5 := Fw.trans k5 fun _ _ h => h
        have H5 := H.same F5
        have M5 := M.frame F5 fun h => h
        have c12 : w5.cell? ⟨g, 12, none⟩ = some cv := H5.cl (o := 12) (by omega)
        have hlt := H5.glt
        obtain ⟨cb', cc2, ecv2, hcl, hcs5⟩ := H5.code.all (by omega)
        have c0 := hcs5 pc (by omega)
        rw [ecv2, ← hn] at c12
        rw [← hn] at M5
        have hwh := hfin.wh
        have hb6 := K.by' pc
        obtain ⟨op, hop⟩ : ∃ op, op = byteAt B.code pc := ⟨_, rfl⟩
        rw [← hop] at c0 hb6
        have hx2 : op = 21 ∨ op = 22 ∨ op = 23 ∨ op = 24 → x = u16V B.code (pc + 1) ∧ ChA B.code x ∧ x < n ∧ (op = 22 ∨ op = 23 → pc < x) ∧ (op = 24 → byteAt B.code x = 25) := fun h => by
          have hl2 : pc + 1 + 2 ≤ n := by
            have e2 : opArgs (byteAt B.code pc) = 2 := by rw [← hop]; rcases h with h | h | h | h <;> rw [h] <;> rfl
            unfold nxt at hwh
            rw [e2] at hwh
            rw [hn]
            simpa using hwh
          have ex := hx hl2
          rw [hop] at h
          have hl := hfin.ld h
          rw [← ex] at hl
          refine ⟨ex, hl.1, by rw [hn]; exact hl.2, fun h => ?_, fun h => ?_⟩
          · rw [ex]; exact hfin.jz (by rw [← hop]; exact h)
          · rw [ex]; exact hfin.cl (by rw [← hop]; exact h)
        have HR : Hid (True ∧ _) := ⟨trivial, F5⟩
        by_cases h22 : op = 22 ∨ op = 23
        · obtain ⟨-, xc, xl, xp, -⟩ := hx2 (by omega)
          replace xp := xp h22
          have q5 := landsK M5 x xl xc
          have y1 : decide ((x : Int) ≤ pc) = false := decide_eq_false (by omega)
          clear hx2 hx hch hfin hcs h1 h2 K M H ecv Fw k5 F5 H5 M5 hcs5 ecv2 hwh hop hw5 xc hn
          rcases h22 with rfl | rfl
          · go_wp2_with fail
            refine q5.mono ?_
            rintro v w6 ⟨rfl, hw6⟩
            subst w6
            clear q5
            go_wp2_with fail
            go_roundg (gk - 1)
            case measure => omega
            case rel => exact ⟨pc + 1, by simp, by omega, by omega, HR.out.2⟩
          · go_wp2_with fail
            refine q5.mono ?_
            rintro v w6 ⟨rfl, hw6⟩
            subst w6
            clear q5
            go_wp2_with fail
            go_roundg (gk - 1)
            case measure => omega
            case rel => exact ⟨pc + 1, by simp, by omega, by omega, HR.out.2⟩
        · by_cases h21 : op = 21
          · obtain ⟨-, xc, xl, -, -⟩ := hx2 (by omega)
            have q5 := landsK M5 x xl xc
            clear hx2 hx hch hfin hcs h1 h2 K M H ecv Fw k5 F5 H5 M5 hcs5 ecv2 hwh hop hw5 xc hn h22
            subst h21
            go_wp2_with fail
            refine q5.mono ?_
            rintro v w6 ⟨rfl, hw6⟩
            subst w6
            clear q5
            go_wp2_with fail
            go_roundg (gk - 1)
            case measure => omega
            case rel => exact ⟨pc + 1, by simp, by omega, by omega, HR.out.2⟩
          · by_cases h24 : op = 24
            · obtain ⟨-, xc, xl, -, x25⟩ := hx2 (by omega)
              replace x25 := x25 h24
              have q5 := landsK M5 x xl xc
              have c25 := hcs5 x (by omega)
              rw [x25] at c25
              clear hx2 hx hch hfin hcs h1 h2 K M H ecv Fw k5 F5 H5 M5 hcs5 ecv2 hwh hop hw5 xc hn h22 h21 x25
              subst h24
              go_wp2_with fail
              refine q5.mono ?_
              rintro v w6 ⟨rfl, hw6⟩
              subst w6
              clear q5
              go_wp2_with fail
              go_roundg (gk - 1)
              case measure => omega
              case rel => exact ⟨pc + 1, by simp, by omega, by omega, HR.out.2⟩
            · have y1 : (((op : Nat) : Int) == 22) = false := by simp; omega
              have y2 : (((op : Nat) : Int) == 23) = false := by simp; omega
              have y3 : (((op : Nat) : Int) == 21) = false := by simp; omega
              have y4 : (((op : Nat) : Int) == 24) = false := by simp; omega
              clear hx2 hx hch hfin hcs h1 h2 K M H ecv Fw k5 F5 H5 M5 hcs5 ecv2 hwh hop hw5 hn h22 h21 h24
              go_wp2_with fail
              go_roundg (gk - 1)
              case measure => omega
              case rel => exact ⟨pc + 1, by simp, by omega, by omega, HR.out.2⟩
    · have z0 : decide ((pc : Int) < (n : Nat)) = false := decide_eq_false (by omega)
      rw [hce, ← hn] at c12
      have HQ : Hid (True ∧ _) := ⟨trivial, Fw⟩
      clear H K hce M hn Hr Fw
      go_wp2_with fail
      go_ret
      exact ⟨rfl, HQ.out.2⟩
end Go.Proofs.Qxb6500277aGreat
