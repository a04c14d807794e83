/- exprText: calls; every expression. -/
import Derived.Test.Qxb6500280aRW5
import Derived.Test.Qxb6500280aRW9a
import Derived.Test.Qxb6500280aRW9b
import Derived.Test.Qxb6500280aRW9c
import Derived.Test.Qxb6500280aRW9d
import Derived.Test.Qxb6500280aRW10
import Derived.Test.Qxb6500280aText7
namespace Go.Proofs.Qxb6500280a
open Go Go.RowKit

set_option maxRecDepth 100000 in
set_option maxHeartbeats 8000000 in
theorem ec_call {s : ByteArray} {p : Int} {gs : Exps} (H1 : ECs gs) : EC (.call s p gs) := fun w b ns r er q o nx lim hn hl hs he ho hlim => by
  simp only [flE] at hs
  simp only [NE] at he
  obtain ⟨lv, d, ho⟩ := ho
  simp only [OkE] at ho
  obtain ⟨sa, sr⟩ := hs.app
  rw [flEs_len] at sr
  rw [rt_one o (szEs gs) (.call s p gs) rfl] at hlim ⊢
  have hx := sr.one
  obtain ⟨x, hxe⟩ : ∃ x, x = o + szEs gs := ⟨_, rfl⟩
  rw [← hxe] at hx hlim ⊢
  have hxl := hx.1
  have ca := fun w' (hn : NT w' b ns) => listF H1 (r := r) (er := er) (q := q) (lim := x) hn hl sa he.2 ho.2 (by omega) (by omega)
  have ls := id_len he.1
  rw [sz_list] at ls
  have ln := len_L gs he.2
  have Hca : Hid _ := ca
  have Hla : Hid ((prL gs).length ≤ 20000) := (show (prL gs).length ≤ 20000 by omega)
  obtain ⟨m0, m1, m2, m3, m4, m5, m6, m7⟩ := hn.node hx
  simp only at m0 m1 m2 m3 m4 m5 m6 m7
  have lb := hn.lt
  have z1 : decide (lim ≤ (x : Int)) = false := decide_eq_false (by omega)
  have z2 : decide (x < ns.length) = true := decide_eq_true hxl
  have z3 : decide ((x : Int) < (ns.length : Int)) = true := decide_eq_true (by omega)
  have HX : Hid (FX w.heap.size _ b ns r er q ⟨13, hdE o gs, -1, -1, nx, 0, p, s⟩) := FX.start hn r er q _
  have F0 : Hid (Fr (fun _ => False) w ((w.alloc (bxO b ns.length r er q)).alloc (ndO ⟨13, hdE o gs, -1, -1, nx, 0, p, s⟩))) := ((Fr.refl _ _).alloc _).alloc _
  clear hn hx hlim hs he ho ca sa sr hxe ln
  unfold trV treeV at *
  obtain ⟨hh, hhe⟩ : ∃ hh, hh = hdE o gs := ⟨_, rfl⟩
  rw [← hhe] at Hca HX F0 m1
  clear hhe
  go_enter Try.func63, Try.ntmps63
  go_wp2_with fail
  have X0 : Hid _ := HX.out.next (Fr.drew (Fr.refl _ _))
  have G0 : Hid _ := F0.out.trans (Fr.drew (Fr.refl (fun _ => False) _)) (fun _ _ h => h)
  obtain ⟨b0, b1, b2, b3, b4, b5⟩ := X0.out.box
  obtain ⟨n0, n1, n2, n3, n4, n5, n6, n7⟩ := X0.out.node
  simp only [ndO, bxO] at b0 b1 b2 b3 b4 b5 n0 n1 n2 n3 n4 n5 n6 n7
  refine wp_region_tree (.run [0, 4, 6, 3, 5] (.fork 1 (.run [2, 7, 8, 9, 10] .fin) 7 (.run [1, 2, 8, 9, 10] .fin))) (by kernel_rfl) (by kernel_rfl) ?_
  simp only [wpTL, pick, List.filterMap_cons, List.filterMap_nil, List.getElem?_cons_zero, List.getElem?_cons_succ]
  go_wp2_with fail
  refine ⟨⟨?_, ?_⟩⟩
  · go_wp2_with fail
    refine ⟨?_⟩
    go_wp2_with fail
    refine (Hca.out _ X0.out.nt).mono ?_
    rintro v w2 ⟨⟨s2, rfl, hs2⟩, f2⟩
    have bs2 := sz_str hs2 Hla.out
    have Hs2 : Hid _ := hs2
    clear hs2
    go_wp2_with fail
    refine ⟨by kernel_rfl, ?_⟩
    go_wp2_with fail
    go_ret
    exact ⟨⟨_, rfl, by simp [prB, Hs2.out]⟩, G0.out.trans f2 (fun _ _ h => h)⟩
  · go_wp2_with fail
    refine (Hca.out _ X0.out.nt).mono ?_
    rintro v w2 ⟨⟨s2, rfl, hs2⟩, f2⟩
    have X2 : Hid _ := X0.out.next f2
    have bs2 := sz_str hs2 Hla.out
    have Hs2 : Hid _ := hs2
    clear hs2 b0 b1 b2 b3 b4 b5 n0 n1 n2 n3 n4 n5 n6 n7
    obtain ⟨b0, b1, b2, b3, b4, b5⟩ := X2.out.box
    obtain ⟨n0, n1, n2, n3, n4, n5, n6, n7⟩ := X2.out.node
    simp only at n0 n1 n2 n3 n4 n5 n6 n7
    go_wp2_with fail
    refine ⟨?_⟩
    go_wp2_with fail
    refine ⟨by kernel_rfl, ?_⟩
    go_wp2_with fail
    go_ret
    exact ⟨⟨_, rfl, by simp [prB, Hs2.out]⟩, G0.out.trans f2 (fun _ _ h => h)⟩
theorem kb (e : Exp) : (∃ k, kiE e = 18 ∧ pwE e = pow k ∧ ∃ p l r, e = .bin k p l r) ∨ ((kiE e == 18) = false ∧ 6 ≤ pwE e) := by
  cases e with
  | bin k p l r => exact .inl ⟨k, rfl, rfl, _, _, _, rfl⟩
  | _ => exact .inr ⟨by simp [kiE], by simp [pwE]⟩
theorem ec_bin {k p : Int} {e1 e2 : Exp} (H1 : EC e1) (H2 : EC e2) : EC (.bin k p e1 e2) := by
  have h5 := pow_le k
  rcases kb e1 with ⟨k1, a1, a2, a3⟩ | ⟨a1, a2⟩
  · rcases kb e2 with ⟨k2, b1, b2, b3⟩ | ⟨b1, b2⟩
    · exact ec_bina H1 H2 k1 a1 a2 a3 k2 b1 b2 b3
    · exact ec_binb H1 H2 k1 a1 a2 a3 b1 (decide_eq_false (by omega))
  · rcases kb e2 with ⟨k2, b1, b2, b3⟩ | ⟨b1, b2⟩
    · exact ec_binc H1 H2 a1 (decide_eq_false (by omega)) k2 b1 b2 b3
    · exact ec_bind H1 H2 a1 (decide_eq_false (by omega)) b1 (decide_eq_false (by omega))
mutual
theorem ecE : (e : Exp) → EC e
  | .num v p => ec_num v p
  | .boo v p => ec_boo v p
  | .var s p => ec_var s p
  | .rd p => ec_rd p
  | .call _ _ gs => ec_call (ecEs gs)
  | .idx _ a b => ec_idx (ecE a) (ecE b)
  | .new _ _ e => ec_new (ecE e)
  | .len _ e => ec_len (ecE e)
  | .un _ _ e => ec_un (ecE e)
  | .bin _ _ l r => ec_bin (ecE l) (ecE r)
theorem ecEs : (es : Exps) → ECs es
  | .nil => trivial
  | .cons e es => ⟨ecE e, ecEs es⟩
end
end Go.Proofs.Qxb6500280a
