/- The real checker: mayDeclare. -/
import Derived.Test.Qxb6500277aGreatCW6
namespace Go.Proofs.Qxb6500277aGreat
open Go Go.RowKit

section
variable {w w' : World} {A : Ca} {X : Cx} {cur : Nat} {s : Ck} {er po : Int}
theorem mayD_dup {nm : ByteArray} {t p : Int} (g : Good s) {e : Nat} (h : fndV nm s.vs = some e) (hl : (vAt s.vs e).level = s.lvl) : mayD nm t p s = .bad 14 p := by
  unfold mayD
  rw [if_pos ((mayD_fnd g nm).2 ⟨e, h, hl⟩)]
theorem mayD_go {nm : ByteArray} {t p : Int} (g : Good s) (h : ∀ e, fndV nm s.vs = some e → (vAt s.vs e).level ≠ s.lvl) : mayD nm t p s = if 2 ≤ t then (if 12 ≤ s.nr then .bad 19 p else .ok () s) else if 12 ≤ s.ni then .bad 19 p else .ok () s := by
  unfold mayD
  rw [if_neg (fun h' => by obtain ⟨e, h1, h2⟩ := (mayD_fnd g nm).1 h'; exact h e h1 h2)]
theorem CS_drewN (m : Nat) : Fr (CS A) w (w.drewN m) := (Fr.refl _ _).drewN m
set_option maxRecDepth 100000 in
set_option maxHeartbeats 4000000 in
theorem mayDC (H : CM w A X cur s 0 0) {x : Nat} {nd : Nd} (hx : A.ns[x]? = some nd) : Calls Tryz.prog 88 #[.pointer (some ⟨A.c, 0, none⟩), .int .i64 x] w (CB w A X cur (mayD nd.name nd.val nd.pos s)) := by
  obtain ⟨hk, hnb, r415, n0, n1, n2, n3, n4, n5, n6, n7, n8⟩ := H.node hx
  have hlt := H.blt.1
  have hle := H.le
  have hxl : (x : Int) < A.ns.length := by omega
  have hF := fun n => (H.drewN n).find n8
  have go : ∀ {w1 : World} (m : Nat), w1 = w.drewN m → CM w1 A X cur s 0 0 := fun m e => e ▸ H.drewN m
  have hfd : ∀ {w1 : World} (m : Nat), w1 = w.drewN m → Fr (CS A) w w1 := fun m e => e ▸ CS_drewN m
  have Hg : Hid (Good s) := H.good
  have Hn : Hid (s.nr ≤ 12 ∧ s.ni ≤ 12) := ⟨H.good.nr12, H.good.ni12⟩
  have Hv : Hid (∀ e, fndV nd.name s.vs = some e → e < s.vs.length) := fun e h => (lst_some h).1
  have Hl24 : Hid (s.vs.length ≤ 24) := by obtain ⟨f, b1, b2, _⟩ := H.blk; exact b2.tv.le
  clear H
  go_enter Tryz.func88, Tryz.ntmps88
  go_wp2_with fail
  go_quiet (first | (go_at_call 67; refine Calls.quiet_of (hF _)))
  go_wp2_with fail
  generalize hw0 : w.drewN _ = w0
  have C := go _ hw0.symm
  have F0 := hfd _ hw0.symm
  clear hF go hfd hw0 r415 n0 n1 n2 n3 n4 n5 n6 n7 hlt hnb
  obtain ⟨_, hnb, r415, n0, n1, n2, n3, n4, n5, n6, n7, n8⟩ := C.node hx
  obtain ⟨r0, r161, r162, r163, r164, r325, r414, r416, r417, r418, r419, hz⟩ := C.regs
  have hlt := C.blt.1
  cases hf : fndV nd.name s.vs with
  | none =>
    rw [show oi none = -1 from rfl]
    have z1 : decide ((-1 : Int) ≥ 0) = false := by decide
    have hgo := mayD_go (t := nd.val) (p := nd.pos) Hg.out (nm := nd.name) (fun e h => by rw [hf] at h; cases h)
    clear hf
    by_cases ht : 2 ≤ nd.val
    · have z2 : decide (nd.val ≥ 2) = true := decide_eq_true ht
      by_cases h12 : 12 ≤ s.nr
      · have z3 : decide ((s.nr : Int) ≥ 12) = true := decide_eq_true (by omega)
        have z4 : decide (12 ≤ s.nr) = true := decide_eq_true h12
        have HR : Hid (_ = _) := hgo
        rw [if_pos ht, if_pos h12] at HR
        clear hgo ht h12
        go_wp2_with fail
        go_quiet (fail)
        go_wp2_with fail
        generalize hw2 : w0.drewN _ = w2
        have C2 : CM w2 A X cur s 0 0 := hw2 ▸ C.drewN _
        have F2 : Fr (CS A) w w2 := F0.trans (hw2 ▸ CS_drewN _) (fun _ _ h => h)
        refine (failC C2 19 nd.pos).mono ?_
        rintro v w3 ⟨rfl, C3, k3⟩
        go_wp2_with fail
        go_ret
        rw [HR.out]
        exact ⟨F2.trans k3 (fun _ _ h => h), rfl, by decide, s, C3⟩
      · have z3 : decide ((s.nr : Int) ≥ 12) = false := decide_eq_false (by omega)
        have z4 : decide (12 ≤ s.nr) = false := decide_eq_false h12
        have HR : Hid (_ = _) := hgo
        rw [if_pos ht, if_neg h12] at HR
        clear hgo ht h12
        go_wp2_with fail
        go_quiet (fail)
        go_wp2_with fail
        generalize hw2 : w0.drewN _ = w2
        have C2 : CM w2 A X cur s 0 0 := hw2 ▸ C.drewN _
        have F2 : Fr (CS A) w w2 := F0.trans (hw2 ▸ CS_drewN _) (fun _ _ h => h)
        go_ret
        rw [HR.out]
        exact ⟨F2, rfl, C2⟩
    · have z2 : decide (nd.val ≥ 2) = false := decide_eq_false ht
      by_cases h12 : 12 ≤ s.ni
      · have z3 : decide ((s.ni : Int) ≥ 12) = true := decide_eq_true (by omega)
        have z4 : decide (12 ≤ s.ni) = true := decide_eq_true h12
        have HR : Hid (_ = _) := hgo
        rw [if_neg ht, if_pos h12] at HR
        clear hgo ht h12
        go_wp2_with fail
        go_quiet (fail)
        go_wp2_with fail
        generalize hw2 : w0.drewN _ = w2
        have C2 : CM w2 A X cur s 0 0 := hw2 ▸ C.drewN _
        have F2 : Fr (CS A) w w2 := F0.trans (hw2 ▸ CS_drewN _) (fun _ _ h => h)
        refine (failC C2 19 nd.pos).mono ?_
        rintro v w3 ⟨rfl, C3, k3⟩
        go_wp2_with fail
        go_ret
        rw [HR.out]
        exact ⟨F2.trans k3 (fun _ _ h => h), rfl, by decide, s, C3⟩
      · have z3 : decide ((s.ni : Int) ≥ 12) = false := decide_eq_false (by omega)
        have z4 : decide (12 ≤ s.ni) = false := decide_eq_false h12
        have HR : Hid (_ = _) := hgo
        rw [if_neg ht, if_neg h12] at HR
        clear hgo ht h12
        go_wp2_with fail
        go_quiet (fail)
        go_wp2_with fail
        generalize hw2 : w0.drewN _ = w2
        have C2 : CM w2 A X cur s 0 0 := hw2 ▸ C.drewN _
        have F2 : Fr (CS A) w w2 := F0.trans (hw2 ▸ CS_drewN _) (fun _ _ h => h)
        go_ret
        rw [HR.out]
        exact ⟨F2, rfl, C2⟩
  | some e =>
    have he := Hv.out e hf
    have he24 : e < 24 := by have := Hl24.out; omega
    obtain ⟨v0, v1, v2, v3⟩ := C.var he
    rw [show oi (some e) = (e : Int) from rfl]
    have z1 : decide ((e : Int) ≥ 0) = true := decide_eq_true (by omega)
    by_cases hd : (vAt s.vs e).level = s.lvl
    · have HR : Hid (_ = _) := mayD_dup (t := nd.val) (p := nd.pos) Hg.out hf hd
      rw [hd] at v3
      clear hf hd
      go_wp2_with fail
      go_quiet (fail)
      go_wp2_with fail
      generalize hw2 : w0.drewN _ = w2
      have C2 : CM w2 A X cur s 0 0 := hw2 ▸ C.drewN _
      have F2 : Fr (CS A) w w2 := F0.trans (hw2 ▸ CS_drewN _) (fun _ _ h => h)
      have hF := failC C2 14 nd.pos
      refine hF.mono ?_
      rintro v w3 ⟨rfl, C3, k3⟩
      go_wp2_with fail
      go_ret
      rw [HR.out]
      exact ⟨F2.trans k3 (fun _ _ h => h), rfl, by decide, s, C3⟩
    · have z5 : (((vAt s.vs e).level : Int) == (s.lvl : Int)) = false := by simpa using (fun h : ((vAt s.vs e).level : Int) = s.lvl => hd (by omega))
      have z6 : ((vAt s.vs e).level == s.lvl) = false := by simpa using hd
      have hgo := mayD_go (t := nd.val) (p := nd.pos) Hg.out (nm := nd.name) (fun e' h => by rw [hf] at h; cases h; exact hd)
      clear hf hd
      by_cases ht : 2 ≤ nd.val
      · have z2 : decide (nd.val ≥ 2) = true := decide_eq_true ht
        by_cases h12 : 12 ≤ s.nr
        · have z3 : decide ((s.nr : Int) ≥ 12) = true := decide_eq_true (by omega)
          have z4 : decide (12 ≤ s.nr) = true := decide_eq_true h12
          have HR : Hid (_ = _) := hgo
          rw [if_pos ht, if_pos h12] at HR
          clear hgo ht h12
          go_wp2_with fail
          go_quiet (fail)
          go_wp2_with fail
          generalize hw2 : w0.drewN _ = w2
          have C2 : CM w2 A X cur s 0 0 := hw2 ▸ C.drewN _
          have F2 : Fr (CS A) w w2 := F0.trans (hw2 ▸ CS_drewN _) (fun _ _ h => h)
          refine (failC C2 19 nd.pos).mono ?_
          rintro v w3 ⟨rfl, C3, k3⟩
          go_wp2_with fail
          go_ret
          rw [HR.out]
          exact ⟨F2.trans k3 (fun _ _ h => h), rfl, by decide, s, C3⟩
        · have z3 : decide ((s.nr : Int) ≥ 12) = false := decide_eq_false (by omega)
          have z4 : decide (12 ≤ s.nr) = false := decide_eq_false h12
          have HR : Hid (_ = _) := hgo
          rw [if_pos ht, if_neg h12] at HR
          clear hgo ht h12
          go_wp2_with fail
          go_quiet (fail)
          go_wp2_with fail
          generalize hw2 : w0.drewN _ = w2
          have C2 : CM w2 A X cur s 0 0 := hw2 ▸ C.drewN _
          have F2 : Fr (CS A) w w2 := F0.trans (hw2 ▸ CS_drewN _) (fun _ _ h => h)
          go_ret
          rw [HR.out]
          exact ⟨F2, rfl, C2⟩
      · have z2 : decide (nd.val ≥ 2) = false := decide_eq_false ht
        by_cases h12 : 12 ≤ s.ni
        · have z3 : decide ((s.ni : Int) ≥ 12) = true := decide_eq_true (by omega)
          have z4 : decide (12 ≤ s.ni) = true := decide_eq_true h12
          have HR : Hid (_ = _) := hgo
          rw [if_neg ht, if_pos h12] at HR
          clear hgo ht h12
          go_wp2_with fail
          go_quiet (fail)
          go_wp2_with fail
          generalize hw2 : w0.drewN _ = w2
          have C2 : CM w2 A X cur s 0 0 := hw2 ▸ C.drewN _
          have F2 : Fr (CS A) w w2 := F0.trans (hw2 ▸ CS_drewN _) (fun _ _ h => h)
          refine (failC C2 19 nd.pos).mono ?_
          rintro v w3 ⟨rfl, C3, k3⟩
          go_wp2_with fail
          go_ret
          rw [HR.out]
          exact ⟨F2.trans k3 (fun _ _ h => h), rfl, by decide, s, C3⟩
        · have z3 : decide ((s.ni : Int) ≥ 12) = false := decide_eq_false (by omega)
          have z4 : decide (12 ≤ s.ni) = false := decide_eq_false h12
          have HR : Hid (_ = _) := hgo
          rw [if_neg ht, if_neg h12] at HR
          clear hgo ht h12
          go_wp2_with fail
          go_quiet (fail)
          go_wp2_with fail
          generalize hw2 : w0.drewN _ = w2
          have C2 : CM w2 A X cur s 0 0 := hw2 ▸ C.drewN _
          have F2 : Fr (CS A) w w2 := F0.trans (hw2 ▸ CS_drewN _) (fun _ _ h => h)
          go_ret
          rw [HR.out]
          exact ⟨F2, rfl, C2⟩
end
end Go.Proofs.Qxb6500277aGreat
