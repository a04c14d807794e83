/- open and unroll, whole. -/
import Derived.Test.Qxb6500283aGreatW6a
import Derived.Test.Qxb6500283aGreatW6b
import Derived.Test.Qxb6500283aGreatW6c
import Derived.Test.Qxb6500283aGreatW6d
namespace Go.Proofs.Qxb6500283aGreat
open Go Go.RowKit

theorem open_any {w : World} {s x n E tb ncap : Nat} {ns : List Nd} {out : List Nd} {ws : List Tk} {rs : List Nat} (h : SM w s x out ws rs) (hZ : ZM w s ns ns.length) (hNM : NM w tb ns) (h24 : ns.length ≤ 24) (hwf : WF ns) (hrb : ∀ k (h : k < ns.length), RB ns[k]) (hE : E ≤ 31) (hW : WOk ns E out.length rs.length (.build n :: ws)) :
    Calls Tryz.prog 117 #[.pointer (some ⟨s, 0, none⟩), .slice (some ⟨tb, 0, none⟩) ns.length ncap, .int .i64 (n : Nat)] w fun v w' => v = .returned (.tuple #[]) ∧ StepP ns E s x (.build n) ws (out, rs) w w' := by
  have hn : n < ns.length := by cases hW; assumption
  have hw2 : (zz ns n).1 = 2 := by cases hW; assumption
  have hok := hwf n hn
  have hr := hrb n hn
  have hz := zz_eq hwf n hn
  obtain ⟨⟨kind, a, b, mn, mx, cp, lz, st⟩, hnd⟩ : ∃ nd, ns[n] = nd := ⟨_, rfl⟩
  have hwr : kind = 6 → mx ≠ 0 := fun hk => by
    have := (whole_rep hwf hn (by rw [hnd]; exact hk) hw2).2
    rw [hnd] at this
    exact this
  rw [hnd] at hok hr hz
  unfold okNd at hok
  unfold RB at hr
  simp only at hok hr
  rcases hok with ⟨hk, rfl, rfl⟩ | ⟨hk, h1, h2, h3, h4⟩ | ⟨hk, h1, h2, rfl⟩
  · rcases hk with rfl | rfl | rfl | rfl
    · unfold zNd at hz
      simp only [if_true] at hz
      rw [hz] at hw2
      cases hw2
    · exact open_leaf1 h hNM h24 hwf hrb hE hn hnd hW
    · exact open_leaf2 h hNM h24 hwf hrb hE hn hnd hW
    · exact open_leaf3 h hNM h24 hwf hrb hE hn hnd hW
  · obtain ⟨na, rfl⟩ : ∃ na : Nat, a = na := ⟨a.toNat, by omega⟩
    obtain ⟨nb, rfl⟩ : ∃ nb : Nat, b = nb := ⟨b.toNat, by omega⟩
    rcases hk with rfl | rfl
    · exact open_cat h hZ hNM h24 hwf hrb hE hn hnd (by omega) (by omega) hW
    · exact open_alt h hZ hNM h24 hwf hrb hE hn hnd (by omega) (by omega) hW
  · obtain ⟨na, rfl⟩ : ∃ na : Nat, a = na := ⟨a.toNat, by omega⟩
    rcases hk with rfl | rfl
    · obtain ⟨r1, r2, r3, r4, r5⟩ := hr rfl
      have hx0 := hwr rfl
      obtain ⟨m, rfl⟩ : ∃ m : Nat, mn = m := ⟨mn.toNat, by omega⟩
      by_cases hm : 1 ≤ m
      · exact open_rep_a h hNM h24 hwf hrb hE hn hnd (by omega) hm (by omega) hW
      · obtain rfl : m = 0 := by omega
        by_cases hx : mx < 0
        · obtain rfl : mx = -1 := by omega
          exact open_rep_b h hNM h24 hwf hrb hE hn hnd (by omega) hW
        · obtain ⟨u, rfl⟩ : ∃ u : Nat, mx = u := ⟨mx.toNat, by omega⟩
          cases lz with
          | true => exact open_rep_opt h hNM h24 hwf hrb hE hn hnd (by omega) (by omega) (by omega) hW
          | false => exact open_rep_c h hNM h24 hwf hrb hE hn hnd (by omega) (by omega) (by omega) hW
    · exact open_grp h hNM h24 hwf hrb hE hn hnd (by omega) hW
theorem unroll_any {w : World} {s x n at_ : Nat} {e : Int} {ns : List Nd} {out O : List Nd} {ws : List Tk} {rs : List Nat} {r : Nat} (h : SM w s x out ws (r :: rs)) (hwf : WF ns) (hrb : ∀ k (h : k < ns.length), RB ns[k]) (hn : n < ns.length) (hk6 : ns[n].kind = 6) (hw2 : (zz ns n).1 = 2) (hrs : rs.length < 25)
    (he : e = -1 ∧ optLz ns[n] = false ∨ e = (at_ : Int) - 1 ∧ 1 ≤ at_ ∧ optLz ns[n] = true) (hO : O.length = baseOf at_ e) (hout : out = O ++ (if optLz ns[n] then [leafNd 0 noP] else []) ++ bld ns ns[n].a.toNat at_) (hr : r = at_ + (bld ns ns[n].a.toNat at_).length - 1) (hcap : O.length + (unrollOf ns n 0).length ≤ 31) :
    Calls Tryz.prog 122 #[.pointer (some ⟨s, 0, none⟩), ndV ns[n], .int .i64 (at_ : Nat), .int .i64 e] w fun v w' => v = .returned (.int .i64 ((O.length + (unrollOf ns n O.length).length - 1 : Nat) : Int)) ∧ SM w' s x (O ++ unrollOf ns n O.length) ws rs ∧ Fr (fun b => SBld s b) w w' := by
  have hwr := whole_rep hwf hn hk6 hw2
  have hok := hwf n hn
  have hb := hrb n hn hk6
  have hfac := unroll_facts hwf hrb hn hk6 hw2
  have hu0 : unrollOf ns n = unrollW (bld ns ns[n].a.toNat) ns[n].mn.toNat ns[n].mx ns[n].lz := by unfold unrollOf; rw [ndAt_eq hn]
  have hlen := hfac.2.1.len O.length
  rw [hlen]
  have ha : ns[n].a.toNat < ns.length := by
    rcases hok with ⟨hk2, _⟩ | ⟨hk2, _⟩ | ⟨_, h2, h3, _⟩ <;> omega
  have hf := hfac.1
  have hbd := bld_bd hwf hrb _ ha hwr.1
  have hx0 := hwr.2
  have hok2 : ns[n].b = -1 := by rcases hok with ⟨hk2, _⟩ | ⟨hk2, _⟩ | ⟨_, _, _, h4⟩ <;> omega
  obtain ⟨⟨kind, a, b, mn, mx, cp, lz, st⟩, hnd⟩ : ∃ nd, ns[n] = nd := ⟨_, rfl⟩
  rw [hnd] at hb hx0 he hout hr hu0 hf hbd hk6 ⊢
  simp only at hb hx0 hu0 hf hbd hk6 hout hr
  generalize bld ns a.toNat = f at *
  obtain ⟨r1, r2, r3, r4, r5⟩ := hb
  obtain ⟨m, rfl⟩ : ∃ m : Nat, mn = m := ⟨mn.toNat, by omega⟩
  simp only [Int.toNat_natCast] at hu0
  rw [hf.len] at hr
  unfold baseOf at hO
  have hfl := hf.len
  by_cases hopt : optLz ⟨kind, a, b, (m : Nat), mx, cp, lz, st⟩ = true
  · rcases he with ⟨_, h2⟩ | ⟨rfl, h1, _⟩
    · rw [hopt] at h2; cases h2
    have hat : at_ = O.length + 1 := by rw [if_neg (by omega)] at hO; omega
    rw [if_pos hopt] at hout
    unfold optLz at hopt
    simp only [Bool.and_eq_true, decide_eq_true_eq] at hopt
    obtain ⟨⟨hm0, hmx⟩, rfl⟩ := hopt
    obtain rfl : m = 0 := by omega
    obtain ⟨u, rfl⟩ : ∃ u : Nat, mx = u := ⟨mx.toNat, by omega⟩
    have hu1 : unrollOf ns n = optW f true u := by
      rw [hu0]; unfold unrollW
      rw [if_neg (by omega), if_pos (by omega), if_pos rfl]
      simp
    rw [hu1] at hcap ⊢
    subst hat hr
    have hseg : out = O ++ segsW f true (cnt false 0) O.length := by
      rw [hout]
      show _ = O ++ ([] ++ segW f true (O.length + 0 * segN f true))
      simp [segW]
    rw [hseg] at h
    have := unroll_zol (kd := kind) (na := a) (nb := b) (cp := cp) (st := st) hf hbd (u := u) (by omega) (by omega) h hrs hcap
    rw [show (((O.length + 1 : Nat) : Int) - 1) = ((O.length : Nat) : Int) by omega]
    exact this
  · have hopt : optLz ⟨kind, a, b, (m : Nat), mx, cp, lz, st⟩ = false := by simpa using hopt
    obtain rfl : e = -1 := by
      rcases he with ⟨h, _⟩ | ⟨_, _, h2⟩
      · exact h
      · rw [hopt] at h2; cases h2
    have hat : at_ = O.length := by rw [if_pos (by omega)] at hO; omega
    rw [hopt] at hout
    simp only [Bool.false_eq_true, if_false, List.append_nil] at hout
    subst hat hr hout
    by_cases hm : 1 ≤ m
    · by_cases hx : mx < 0
      · obtain rfl : mx = -1 := by omega
        have hu1 : unrollOf ns n = joinW catNd (repsW f m) (starW f lz) := by
          rw [hu0]; unfold unrollW
          rw [if_pos (by omega), if_neg (by omega)]
        rw [hu1] at hcap ⊢
        exact unroll_ps hf hbd hm (by omega) h hrs hcap
      · obtain ⟨u, rfl⟩ : ∃ u : Nat, mx = u := ⟨mx.toNat, by omega⟩
        have h5 := r5 (by omega)
        by_cases hlt : m < u
        · have hu1 : unrollOf ns n = joinW catNd (repsW f m) (optW f lz (u - m)) := by
            rw [hu0]; unfold unrollW
            rw [if_neg (by omega), if_pos (by omega), if_neg (by omega)]
            simp
          rw [hu1] at hcap ⊢
          cases lz with
          | true => exact unroll_pol hf hbd hm hlt (by omega) h hrs hcap
          | false => exact unroll_pog hf hbd hm hlt (by omega) h hrs hcap
        · obtain rfl : m = u := by omega
          have hu1 : unrollOf ns n = repsW f m := by
            rw [hu0]; unfold unrollW
            rw [if_neg (by omega), if_neg (by omega)]
          rw [hu1] at hcap ⊢
          exact unroll_pe hf hbd hm (by omega) h hrs hcap
    · obtain rfl : m = 0 := by omega
      by_cases hx : mx < 0
      · obtain rfl : mx = -1 := by omega
        have hu1 : unrollOf ns n = starW f lz := by
          rw [hu0]; unfold unrollW
          rw [if_pos (by omega), if_pos rfl]
        rw [hu1] at hcap ⊢
        exact unroll_zs hf h hrs hcap
      · obtain ⟨u, rfl⟩ : ∃ u : Nat, mx = u := ⟨mx.toNat, by omega⟩
        have hlz : lz = false := by
          unfold optLz at hopt
          cases lz with
          | false => rfl
          | true => simp at hopt; omega
        subst hlz
        have hu1 : unrollOf ns n = optW f false u := by
          rw [hu0]; unfold unrollW
          rw [if_neg (by omega), if_pos (by omega), if_pos rfl]
          simp
        rw [hu1] at hcap ⊢
        have hseg : O ++ f O.length = O ++ segsW f false (cnt false 0) O.length := by
          show _ = O ++ ([] ++ segW f false (O.length + 0 * segN f false))
          simp [segW]
        rw [hseg] at h
        exact unroll_zog (kd := kind) (na := a) (nb := b) (cp := cp) (st := st) hf hbd (u := u) (by omega) (by omega) h hrs hcap
end Go.Proofs.Qxb6500283aGreat
