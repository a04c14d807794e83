/- exprText: the leaves, len. -/
import Derived.Test.Qxb6500280aRW4
namespace Go.Proofs.Qxb6500280a
open Go Go.RowKit

set_option maxRecDepth 100000 in
set_option maxHeartbeats 4000000 in
theorem ec_len {p : Int} {e1 : Exp} (H1 : EC e1) : EC (.len p e1) := fun w b ns r er q o nx lim hn hl hs he ho hlim => by
  simp only [flE] at hs
  simp only [NE] at he
  obtain ⟨sa, sr⟩ := hs.app
  rw [flE_len] at sr
  obtain ⟨lv, d, ho⟩ := ho
  simp only [OkE] at ho
  rw [rt_one o (szE e1) (.len p e1) rfl] at hlim ⊢
  have hx := sr.one
  obtain ⟨x, hxe⟩ : ∃ x, x = o + szE e1 := ⟨_, rfl⟩
  rw [← hxe] at hx hlim ⊢
  obtain ⟨ra, era, ha⟩ := rtE_nat o e1
  have ca := fun w' (hn : NT w' b ns) => H1 w' b ns r er q o (-1) x hn hl sa he ⟨_, _, ho.2⟩ (by rw [era]; omega)
  have la := len_B e1 he
  have hxl := hx.1
  rw [era] at hx ca
  obtain ⟨m0, m1, m2, m3, m4, m5, m6, m7⟩ := hn.node hx
  simp only at m0 m1 m2 m3 m4 m5 m6 m7
  have lb := hn.lt
  have z1 : decide (lim ≤ (x : Int)) = false := decide_eq_false (by omega)
  have z2 : decide (x < ns.length) = true := decide_eq_true hxl
  have z3 : decide ((x : Int) < (ns.length : Int)) = true := decide_eq_true (by omega)
  have HX : Hid (FX w.heap.size _ b ns r er q ⟨16, (ra : Int), -1, -1, nx, 0, p, ⟨#[]⟩⟩) := FX.start hn r er q _
  have F0 : Hid (Fr (fun _ => False) w ((w.alloc (bxO b ns.length r er q)).alloc (ndO ⟨16, (ra : Int), -1, -1, nx, 0, p, ⟨#[]⟩⟩))) := ((Fr.refl _ _).alloc _).alloc _
  have Hca : Hid _ := ca
  have Hla : Hid ((prB e1).length ≤ 20000) := by have : ra < 200 := by omega
                                                 show (prB e1).length ≤ 20000
                                                 omega
  clear hn hx hlim hs he ho ca sa sr la hxe ha era
  unfold trV treeV at *
  go_enter Try.func63, Try.ntmps63
  go_wp2_with fail
  refine (Hca.out _ HX.out.nt).mono ?_
  rintro v w3 ⟨⟨s, rfl, hs⟩, f3⟩
  have bs := sz_str hs Hla.out
  have Hs : Hid _ := hs
  clear hs
  go_wp2_with fail
  go_ret
  exact ⟨⟨_, rfl, by simp [prB, Hs.out]⟩, F0.out.trans f3 (fun _ _ h => h)⟩
end Go.Proofs.Qxb6500280a
