/- The model machine: binary operators (written by genVM7.py). -/
import Derived.Test.Qxb6500281aGreatVM6
import Derived.Test.Qxb6500281aGreatVR6
namespace Go.Proofs.Qxb6500281aGreat
open Go Go.RowKit

section
variable {w w' w1 : World} {rn hm : Nat} {C : List Nat} {I : List Int} {V V' : Vs} {M M' : MS} {col col' : Nat → Nat} {P P' F : Nat → Prop} {cv iv ov fv : Value} {g : Nat → Value} {f : Fm} {r : List Fm}
theorem MZ.nx {Q : Nat → Prop} (h1 : MZ w rn hm C I V M P w1) (hP : ∀ c, Q c → Gw P w w1 c) (h2 : MZ w1 rn hm C I V' M' Q w') : MZ w rn hm C I V' M' P w' := by
  have k1 := h1.2.size
  have k2 := h2.2.size
  have l2 := h2.1.lt
  have l1 := h1.1.lt
  refine ⟨h2.1.up (fun c hc => ?_) (fun c hc => ?_), h1.2.trans h2.2 (fun c hc h => (hP c h).elim id (fun h => absurd h.1 (by omega)))⟩
  · rcases hc with h | h
    · rcases hP c h with h | h
      · exact .inl h
      · exact .inr ⟨h.1, by omega⟩
    · exact .inr ⟨by omega, h.2⟩
  · rcases hc with h | h
    · have := l1 c (.inl h); omega
    · exact h.2
theorem drop_fs (hf : V.fs = f :: r) (k : Nat) : (dropO V k).fs = { f with ops := f.ops.take (f.ops.length - k) } :: r := by rw [dropO_c hf]
theorem opn_drop (hf : V.fs = f :: r) (h2 : 2 ≤ f.ops.length) : opn (dropO V 1) 0 = opn V 1 := by
  unfold opn
  rw [topO_c (drop_fs hf 1), topO_c hf]
  simp only [List.length_take]
  rw [show min (f.ops.length - 1) f.ops.length - 1 - 0 = f.ops.length - 1 - 1 by omega]
  simp only [List.getD_eq_getElem?_getD]
  rw [List.getElem?_take_of_lt (by omega)]
theorem drop_used (hf : V.fs = f :: r) (k : Nat) (hk : k ≤ f.ops.length) : usedF (dropO V k).fs + k = usedF V.fs := by
  rw [drop_fs hf, hf]
  simp only [usedF, List.length_take]
  omega
theorem drop_most (V : Vs) (k : Nat) : (dropO V k).most = V.most := by
  obtain ⟨fs, pc, fuel, ip, out, en, rt, steps, most⟩ := V
  cases fs <;> rfl
theorem drop_drop (hf : V.fs = f :: r) : dropO (dropO V 1) 1 = dropO V 2 := by
  rw [dropO_c (drop_fs hf 1), dropO_c hf, dropO_c hf]
  simp only [List.length_take, List.take_take]
  rw [show min (min (f.ops.length - 1) f.ops.length - 1) (f.ops.length - 1) = f.ops.length - 2 by omega]
theorem push_put (hf : V.fs = f :: r) (k : Nat) (h0 : 0 < k) (hk : k ≤ f.ops.length) (hu : usedF V.fs ≤ 48) (hm : usedF V.fs ≤ V.most) (x : Int) : pushV (dropO V k) x = putO V k x := by
  have h1 := drop_used hf k hk
  have h2 := drop_most V k
  unfold pushV
  rw [if_neg (by omega), h2, show max V.most (usedF (dropO V k).fs + 1) = V.most by omega, setO_c (drop_fs hf k), topO_c (drop_fs hf k), putO_c hf, dropO_c hf]
set_option maxRecDepth 100000 in
set_option maxHeartbeats 600000 in
theorem bin8 (H : MR w rn hm C I V M col P cv iv ov fv g) (hf : V.fs = f :: r) (h24 : M.rt.length ≤ 24) (hq : f.rb + f.lr ≤ M.rt.length) (hu : usedF V.fs ≤ V.most) (hmo : V.most ≤ 48) (h2 : 2 ≤ f.ops.length) : Calls Tryz.prog 90 #[.pointer (some ⟨rn, 0, none⟩), .int .i64 8] w fun e w' => e = .returned (.tuple #[]) ∧ MZ w rn hm C I (putO V 2 (arithI 8 (opn V 1) (opn V 0))) M P w' := by
  obtain ⟨X, hX⟩ : ∃ X, X = putO V 2 (arithI 8 (opn V 1) (opn V 0)) := ⟨_, rfl⟩
  rw [← hX]
  have HXE : Hid _ := hX
  clear hX
  have hsum : usedF V.fs = 3 + f.loc.length + f.ops.length + usedF r := by rw [hf]; rfl
  have hrl := lenUsed r
  have hN := need_ok H hf h24 (by omega) (by omega) 2 0 h2 (by omega)
  rw [show ((2 : Nat) : Int) = 2 from rfl, show ((0 : Nat) : Int) = 0 from rfl] at hN
  have HX : Hid _ := And.intro H (And.intro hf (And.intro hu (And.intro hmo h2)))
  have hlt := H.rlt
  have h48 : r.length ≤ 48 ∧ f.ops.length ≤ 48 ∧ usedF V.fs ≤ 48 := by omega
  have hopd := opn_drop hf h2
  have Hop : Hid _ := And.intro hopd h48
  clear H hf hu hmo h2 hsum hrl hopd h48 h24 hq
  go_enter Tryz.func90, Tryz.ntmps90
  go_wp2_with fail
  refine hN.mono ?_
  rintro v w1 ⟨rfl, m, rfl⟩
  clear hN
  have H1 := HX.out.1.same ((Fr.refl (fun _ => False) w).drewN m)
  have hP1 := vpopMF H1 HX.out.2.1 Hop.out.2.1 (by have := HX.out.2.2.2.2; omega) Hop.out.2.2.1
  have hlt1 := H1.rlt
  have kz : MZ w rn hm C I V M P (w.drewN m) := HX.out.1.e.z0 ((Fr.refl (fun _ => False) w).drewN m)
  have Hz : Hid _ := kz
  clear H1 hlt kz
  go_wp2_with fail
  refine hP1.mono ?_
  rintro v w2 ⟨rfl, ⟨col2, cv2, iv2, ov2, fv2, g2, H2⟩, k2⟩
  clear hP1
  have hP2 := vpopMF H2 (drop_fs HX.out.2.1 1) Hop.out.2.1 (by simp only [List.length_take]; have := HX.out.2.2.2.2; omega) (by simp only [List.length_take]; have := Hop.out.2.2.1; omega)
  rw [Hop.out.1] at hP2
  have hlt2 := H2.rlt
  have Hz2 : Hid (MZ (w.drewN m) rn hm C I (dropO V 1) M P w2) := ⟨H2.e, k2⟩
  clear H2 k2 hlt1
  go_wp2_with fail
  refine hP2.mono ?_
  rintro v w3 ⟨rfl, ⟨col3, cv3, iv3, ov3, fv3, g3, H3⟩, k3⟩
  clear hP2
  rw [drop_drop HX.out.2.1] at H3
  have Hz3 : Hid (MZ w2 rn hm C I (dropO V 2) M (Gw P (w.drewN m) w2) w3) := ⟨H3.e, k3⟩
  have hlt3 := H3.rlt
  have hQ := vpushMF H3 (drop_fs HX.out.2.1 2) (by have := drop_used HX.out.2.1 2 HX.out.2.2.2.2; have := Hop.out.2.2.2; omega) (by rw [drop_most]; exact HX.out.2.2.2.1) (arithI 8 (opn V 1) (opn V 0))
  have HP : Hid (X = pushV (dropO V 2) (arithI 8 (opn V 1) (opn V 0))) := HXE.out.trans (push_put HX.out.2.1 2 (by omega) HX.out.2.2.2.2 Hop.out.2.2.2 HX.out.2.2.1 _).symm
  clear H3 k3 hlt2
  rw [show arithI 8 (opn V 1) (opn V 0) = wr64 (opn V 1 + opn V 0) from rfl] at hQ HP
  generalize opn V 1 = a at *
  generalize opn V 0 = b at *
  go_wp2_with fail
  refine hQ.mono ?_
  rintro v w4 ⟨rfl, h4⟩
  go_wp2_with fail
  go_end0
  have hz : MZ w rn hm C I V M P (w.drewN m) := Hz.out
  have h12 : MZ w rn hm C I (dropO V 1) M P w2 := hz.nx (fun c q => .inl q) Hz2.out
  have h13 : MZ w rn hm C I (dropO V 2) M P w3 := h12.nx (fun c q => q.elim .inl (fun q => .inr ⟨q.1, q.2⟩)) Hz3.out
  rw [HP.out]
  exact ⟨rfl, h13.nx (fun c q => by
    have s3 := Hz3.out.2.size
    have s2 := Hz2.out.2.size
    have s1 := hz.2.size
    rcases q with (q | q) | q
    · exact .inl q
    · exact .inr ⟨q.1, by have := q.2; omega⟩
    · exact .inr ⟨by have := q.1; omega, q.2⟩) h4⟩
set_option maxRecDepth 100000 in
set_option maxHeartbeats 600000 in
theorem bin9 (H : MR w rn hm C I V M col P cv iv ov fv g) (hf : V.fs = f :: r) (h24 : M.rt.length ≤ 24) (hq : f.rb + f.lr ≤ M.rt.length) (hu : usedF V.fs ≤ V.most) (hmo : V.most ≤ 48) (h2 : 2 ≤ f.ops.length) : Calls Tryz.prog 90 #[.pointer (some ⟨rn, 0, none⟩), .int .i64 9] w fun e w' => e = .returned (.tuple #[]) ∧ MZ w rn hm C I (putO V 2 (arithI 9 (opn V 1) (opn V 0))) M P w' := by
  obtain ⟨X, hX⟩ : ∃ X, X = putO V 2 (arithI 9 (opn V 1) (opn V 0)) := ⟨_, rfl⟩
  rw [← hX]
  have HXE : Hid _ := hX
  clear hX
  have hsum : usedF V.fs = 3 + f.loc.length + f.ops.length + usedF r := by rw [hf]; rfl
  have hrl := lenUsed r
  have hN := need_ok H hf h24 (by omega) (by omega) 2 0 h2 (by omega)
  rw [show ((2 : Nat) : Int) = 2 from rfl, show ((0 : Nat) : Int) = 0 from rfl] at hN
  have HX : Hid _ := And.intro H (And.intro hf (And.intro hu (And.intro hmo h2)))
  have hlt := H.rlt
  have h48 : r.length ≤ 48 ∧ f.ops.length ≤ 48 ∧ usedF V.fs ≤ 48 := by omega
  have hopd := opn_drop hf h2
  have Hop : Hid _ := And.intro hopd h48
  clear H hf hu hmo h2 hsum hrl hopd h48 h24 hq
  go_enter Tryz.func90, Tryz.ntmps90
  go_wp2_with fail
  refine hN.mono ?_
  rintro v w1 ⟨rfl, m, rfl⟩
  clear hN
  have H1 := HX.out.1.same ((Fr.refl (fun _ => False) w).drewN m)
  have hP1 := vpopMF H1 HX.out.2.1 Hop.out.2.1 (by have := HX.out.2.2.2.2; omega) Hop.out.2.2.1
  have hlt1 := H1.rlt
  have kz : MZ w rn hm C I V M P (w.drewN m) := HX.out.1.e.z0 ((Fr.refl (fun _ => False) w).drewN m)
  have Hz : Hid _ := kz
  clear H1 hlt kz
  go_wp2_with fail
  refine hP1.mono ?_
  rintro v w2 ⟨rfl, ⟨col2, cv2, iv2, ov2, fv2, g2, H2⟩, k2⟩
  clear hP1
  have hP2 := vpopMF H2 (drop_fs HX.out.2.1 1) Hop.out.2.1 (by simp only [List.length_take]; have := HX.out.2.2.2.2; omega) (by simp only [List.length_take]; have := Hop.out.2.2.1; omega)
  rw [Hop.out.1] at hP2
  have hlt2 := H2.rlt
  have Hz2 : Hid (MZ (w.drewN m) rn hm C I (dropO V 1) M P w2) := ⟨H2.e, k2⟩
  clear H2 k2 hlt1
  go_wp2_with fail
  refine hP2.mono ?_
  rintro v w3 ⟨rfl, ⟨col3, cv3, iv3, ov3, fv3, g3, H3⟩, k3⟩
  clear hP2
  rw [drop_drop HX.out.2.1] at H3
  have Hz3 : Hid (MZ w2 rn hm C I (dropO V 2) M (Gw P (w.drewN m) w2) w3) := ⟨H3.e, k3⟩
  have hlt3 := H3.rlt
  have hQ := vpushMF H3 (drop_fs HX.out.2.1 2) (by have := drop_used HX.out.2.1 2 HX.out.2.2.2.2; have := Hop.out.2.2.2; omega) (by rw [drop_most]; exact HX.out.2.2.2.1) (arithI 9 (opn V 1) (opn V 0))
  have HP : Hid (X = pushV (dropO V 2) (arithI 9 (opn V 1) (opn V 0))) := HXE.out.trans (push_put HX.out.2.1 2 (by omega) HX.out.2.2.2.2 Hop.out.2.2.2 HX.out.2.2.1 _).symm
  clear H3 k3 hlt2
  rw [show arithI 9 (opn V 1) (opn V 0) = wr64 (opn V 1 - opn V 0) from rfl] at hQ HP
  generalize opn V 1 = a at *
  generalize opn V 0 = b at *
  go_wp2_with fail
  refine hQ.mono ?_
  rintro v w4 ⟨rfl, h4⟩
  go_wp2_with fail
  go_end0
  have hz : MZ w rn hm C I V M P (w.drewN m) := Hz.out
  have h12 : MZ w rn hm C I (dropO V 1) M P w2 := hz.nx (fun c q => .inl q) Hz2.out
  have h13 : MZ w rn hm C I (dropO V 2) M P w3 := h12.nx (fun c q => q.elim .inl (fun q => .inr ⟨q.1, q.2⟩)) Hz3.out
  rw [HP.out]
  exact ⟨rfl, h13.nx (fun c q => by
    have s3 := Hz3.out.2.size
    have s2 := Hz2.out.2.size
    have s1 := hz.2.size
    rcases q with (q | q) | q
    · exact .inl q
    · exact .inr ⟨q.1, by have := q.2; omega⟩
    · exact .inr ⟨by have := q.1; omega, q.2⟩) h4⟩
set_option maxRecDepth 100000 in
set_option maxHeartbeats 600000 in
theorem bin10 (H : MR w rn hm C I V M col P cv iv ov fv g) (hf : V.fs = f :: r) (h24 : M.rt.length ≤ 24) (hq : f.rb + f.lr ≤ M.rt.length) (hu : usedF V.fs ≤ V.most) (hmo : V.most ≤ 48) (h2 : 2 ≤ f.ops.length) : Calls Tryz.prog 90 #[.pointer (some ⟨rn, 0, none⟩), .int .i64 10] w fun e w' => e = .returned (.tuple #[]) ∧ MZ w rn hm C I (putO V 2 (arithI 10 (opn V 1) (opn V 0))) M P w' := by
  obtain ⟨X, hX⟩ : ∃ X, X = putO V 2 (arithI 10 (opn V 1) (opn V 0)) := ⟨_, rfl⟩
  rw [← hX]
  have HXE : Hid _ := hX
  clear hX
  have hsum : usedF V.fs = 3 + f.loc.length + f.ops.length + usedF r := by rw [hf]; rfl
  have hrl := lenUsed r
  have hN := need_ok H hf h24 (by omega) (by omega) 2 0 h2 (by omega)
  rw [show ((2 : Nat) : Int) = 2 from rfl, show ((0 : Nat) : Int) = 0 from rfl] at hN
  have HX : Hid _ := And.intro H (And.intro hf (And.intro hu (And.intro hmo h2)))
  have hlt := H.rlt
  have h48 : r.length ≤ 48 ∧ f.ops.length ≤ 48 ∧ usedF V.fs ≤ 48 := by omega
  have hopd := opn_drop hf h2
  have Hop : Hid _ := And.intro hopd h48
  clear H hf hu hmo h2 hsum hrl hopd h48 h24 hq
  go_enter Tryz.func90, Tryz.ntmps90
  go_wp2_with fail
  refine hN.mono ?_
  rintro v w1 ⟨rfl, m, rfl⟩
  clear hN
  have H1 := HX.out.1.same ((Fr.refl (fun _ => False) w).drewN m)
  have hP1 := vpopMF H1 HX.out.2.1 Hop.out.2.1 (by have := HX.out.2.2.2.2; omega) Hop.out.2.2.1
  have hlt1 := H1.rlt
  have kz : MZ w rn hm C I V M P (w.drewN m) := HX.out.1.e.z0 ((Fr.refl (fun _ => False) w).drewN m)
  have Hz : Hid _ := kz
  clear H1 hlt kz
  go_wp2_with fail
  refine hP1.mono ?_
  rintro v w2 ⟨rfl, ⟨col2, cv2, iv2, ov2, fv2, g2, H2⟩, k2⟩
  clear hP1
  have hP2 := vpopMF H2 (drop_fs HX.out.2.1 1) Hop.out.2.1 (by simp only [List.length_take]; have := HX.out.2.2.2.2; omega) (by simp only [List.length_take]; have := Hop.out.2.2.1; omega)
  rw [Hop.out.1] at hP2
  have hlt2 := H2.rlt
  have Hz2 : Hid (MZ (w.drewN m) rn hm C I (dropO V 1) M P w2) := ⟨H2.e, k2⟩
  clear H2 k2 hlt1
  go_wp2_with fail
  refine hP2.mono ?_
  rintro v w3 ⟨rfl, ⟨col3, cv3, iv3, ov3, fv3, g3, H3⟩, k3⟩
  clear hP2
  rw [drop_drop HX.out.2.1] at H3
  have Hz3 : Hid (MZ w2 rn hm C I (dropO V 2) M (Gw P (w.drewN m) w2) w3) := ⟨H3.e, k3⟩
  have hlt3 := H3.rlt
  have hQ := vpushMF H3 (drop_fs HX.out.2.1 2) (by have := drop_used HX.out.2.1 2 HX.out.2.2.2.2; have := Hop.out.2.2.2; omega) (by rw [drop_most]; exact HX.out.2.2.2.1) (arithI 10 (opn V 1) (opn V 0))
  have HP : Hid (X = pushV (dropO V 2) (arithI 10 (opn V 1) (opn V 0))) := HXE.out.trans (push_put HX.out.2.1 2 (by omega) HX.out.2.2.2.2 Hop.out.2.2.2 HX.out.2.2.1 _).symm
  clear H3 k3 hlt2
  rw [show arithI 10 (opn V 1) (opn V 0) = wr64 (opn V 1 * opn V 0) from rfl] at hQ HP
  generalize opn V 1 = a at *
  generalize opn V 0 = b at *
  go_wp2_with fail
  refine hQ.mono ?_
  rintro v w4 ⟨rfl, h4⟩
  go_wp2_with fail
  go_end0
  have hz : MZ w rn hm C I V M P (w.drewN m) := Hz.out
  have h12 : MZ w rn hm C I (dropO V 1) M P w2 := hz.nx (fun c q => .inl q) Hz2.out
  have h13 : MZ w rn hm C I (dropO V 2) M P w3 := h12.nx (fun c q => q.elim .inl (fun q => .inr ⟨q.1, q.2⟩)) Hz3.out
  rw [HP.out]
  exact ⟨rfl, h13.nx (fun c q => by
    have s3 := Hz3.out.2.size
    have s2 := Hz2.out.2.size
    have s1 := hz.2.size
    rcases q with (q | q) | q
    · exact .inl q
    · exact .inr ⟨q.1, by have := q.2; omega⟩
    · exact .inr ⟨by have := q.1; omega, q.2⟩) h4⟩
set_option maxRecDepth 100000 in
set_option maxHeartbeats 600000 in
theorem bin11 (H : MR w rn hm C I V M col P cv iv ov fv g) (hf : V.fs = f :: r) (h24 : M.rt.length ≤ 24) (hq : f.rb + f.lr ≤ M.rt.length) (hu : usedF V.fs ≤ V.most) (hmo : V.most ≤ 48) (h2 : 2 ≤ f.ops.length) (hb : opn V 0 ≠ 0) : Calls Tryz.prog 90 #[.pointer (some ⟨rn, 0, none⟩), .int .i64 11] w fun e w' => e = .returned (.tuple #[]) ∧ MZ w rn hm C I (putO V 2 (arithI 11 (opn V 1) (opn V 0))) M P w' := by
  obtain ⟨X, hX⟩ : ∃ X, X = putO V 2 (arithI 11 (opn V 1) (opn V 0)) := ⟨_, rfl⟩
  rw [← hX]
  have HXE : Hid _ := hX
  clear hX
  have hsum : usedF V.fs = 3 + f.loc.length + f.ops.length + usedF r := by rw [hf]; rfl
  have hrl := lenUsed r
  have hN := need_ok H hf h24 (by omega) (by omega) 2 0 h2 (by omega)
  rw [show ((2 : Nat) : Int) = 2 from rfl, show ((0 : Nat) : Int) = 0 from rfl] at hN
  have HX : Hid _ := And.intro H (And.intro hf (And.intro hu (And.intro hmo h2)))
  have hlt := H.rlt
  have h48 : r.length ≤ 48 ∧ f.ops.length ≤ 48 ∧ usedF V.fs ≤ 48 := by omega
  have hopd := opn_drop hf h2
  have Hop : Hid _ := And.intro hopd h48
  clear H hf hu hmo h2 hsum hrl hopd h48 h24 hq
  go_enter Tryz.func90, Tryz.ntmps90
  go_wp2_with fail
  refine hN.mono ?_
  rintro v w1 ⟨rfl, m, rfl⟩
  clear hN
  have H1 := HX.out.1.same ((Fr.refl (fun _ => False) w).drewN m)
  have hP1 := vpopMF H1 HX.out.2.1 Hop.out.2.1 (by have := HX.out.2.2.2.2; omega) Hop.out.2.2.1
  have hlt1 := H1.rlt
  have kz : MZ w rn hm C I V M P (w.drewN m) := HX.out.1.e.z0 ((Fr.refl (fun _ => False) w).drewN m)
  have Hz : Hid _ := kz
  clear H1 hlt kz
  go_wp2_with fail
  refine hP1.mono ?_
  rintro v w2 ⟨rfl, ⟨col2, cv2, iv2, ov2, fv2, g2, H2⟩, k2⟩
  clear hP1
  have hP2 := vpopMF H2 (drop_fs HX.out.2.1 1) Hop.out.2.1 (by simp only [List.length_take]; have := HX.out.2.2.2.2; omega) (by simp only [List.length_take]; have := Hop.out.2.2.1; omega)
  rw [Hop.out.1] at hP2
  have hlt2 := H2.rlt
  have Hz2 : Hid (MZ (w.drewN m) rn hm C I (dropO V 1) M P w2) := ⟨H2.e, k2⟩
  clear H2 k2 hlt1
  go_wp2_with fail
  refine hP2.mono ?_
  rintro v w3 ⟨rfl, ⟨col3, cv3, iv3, ov3, fv3, g3, H3⟩, k3⟩
  clear hP2
  rw [drop_drop HX.out.2.1] at H3
  have Hz3 : Hid (MZ w2 rn hm C I (dropO V 2) M (Gw P (w.drewN m) w2) w3) := ⟨H3.e, k3⟩
  have hlt3 := H3.rlt
  have hQ := vpushMF H3 (drop_fs HX.out.2.1 2) (by have := drop_used HX.out.2.1 2 HX.out.2.2.2.2; have := Hop.out.2.2.2; omega) (by rw [drop_most]; exact HX.out.2.2.2.1) (arithI 11 (opn V 1) (opn V 0))
  have HP : Hid (X = pushV (dropO V 2) (arithI 11 (opn V 1) (opn V 0))) := HXE.out.trans (push_put HX.out.2.1 2 (by omega) HX.out.2.2.2.2 Hop.out.2.2.2 HX.out.2.2.1 _).symm
  clear H3 k3 hlt2
  have hF := quoF (opn V 1) (opn V 0) hb
  rw [show arithI 11 (opn V 1) (opn V 0) = quoI (opn V 1) (opn V 0) from rfl] at hQ HP
  generalize opn V 1 = a at *
  generalize opn V 0 = b at *
  have yb : (b == 0) = false := by simpa using hb
  generalize quoI a b = qv at *
  go_wp2_with fail
  refine (hF _).mono ?_
  rintro v w3 ⟨rfl, rfl⟩
  go_wp2_with fail
  refine hQ.mono ?_
  rintro v w4 ⟨rfl, h4⟩
  go_wp2_with fail
  go_end0
  have hz : MZ w rn hm C I V M P (w.drewN m) := Hz.out
  have h12 : MZ w rn hm C I (dropO V 1) M P w2 := hz.nx (fun c q => .inl q) Hz2.out
  have h13 : MZ w rn hm C I (dropO V 2) M P w3 := h12.nx (fun c q => q.elim .inl (fun q => .inr ⟨q.1, q.2⟩)) Hz3.out
  rw [HP.out]
  exact ⟨rfl, h13.nx (fun c q => by
    have s3 := Hz3.out.2.size
    have s2 := Hz2.out.2.size
    have s1 := hz.2.size
    rcases q with (q | q) | q
    · exact .inl q
    · exact .inr ⟨q.1, by have := q.2; omega⟩
    · exact .inr ⟨by have := q.1; omega, q.2⟩) h4⟩
set_option maxRecDepth 100000 in
set_option maxHeartbeats 600000 in
theorem bin11z (H : MR w rn hm C I V M col P cv iv ov fv g) (hf : V.fs = f :: r) (h24 : M.rt.length ≤ 24) (hq : f.rb + f.lr ≤ M.rt.length) (hu : usedF V.fs ≤ V.most) (hmo : V.most ≤ 48) (h2 : 2 ≤ f.ops.length) (hb : opn V 0 = 0) : Calls Tryz.prog 90 #[.pointer (some ⟨rn, 0, none⟩), .int .i64 11] w fun e w' => e = .returned (.tuple #[]) ∧ MZ w rn hm C I ((dropO V 2).die 25) M P w' := by
  obtain ⟨X, hX⟩ : ∃ X, X = (dropO V 2).die 25 := ⟨_, rfl⟩
  rw [← hX]
  have HXE : Hid _ := hX
  clear hX
  have hsum : usedF V.fs = 3 + f.loc.length + f.ops.length + usedF r := by rw [hf]; rfl
  have hrl := lenUsed r
  have hN := need_ok H hf h24 (by omega) (by omega) 2 0 h2 (by omega)
  rw [show ((2 : Nat) : Int) = 2 from rfl, show ((0 : Nat) : Int) = 0 from rfl] at hN
  have HX : Hid _ := And.intro H (And.intro hf (And.intro hu (And.intro hmo h2)))
  have hlt := H.rlt
  have h48 : r.length ≤ 48 ∧ f.ops.length ≤ 48 ∧ usedF V.fs ≤ 48 := by omega
  have hopd := opn_drop hf h2
  have Hop : Hid _ := And.intro hopd h48
  clear H hf hu hmo h2 hsum hrl hopd h48 h24 hq
  go_enter Tryz.func90, Tryz.ntmps90
  go_wp2_with fail
  refine hN.mono ?_
  rintro v w1 ⟨rfl, m, rfl⟩
  clear hN
  have H1 := HX.out.1.same ((Fr.refl (fun _ => False) w).drewN m)
  have hP1 := vpopMF H1 HX.out.2.1 Hop.out.2.1 (by have := HX.out.2.2.2.2; omega) Hop.out.2.2.1
  have hlt1 := H1.rlt
  have kz : MZ w rn hm C I V M P (w.drewN m) := HX.out.1.e.z0 ((Fr.refl (fun _ => False) w).drewN m)
  have Hz : Hid _ := kz
  clear H1 hlt kz
  go_wp2_with fail
  refine hP1.mono ?_
  rintro v w2 ⟨rfl, ⟨col2, cv2, iv2, ov2, fv2, g2, H2⟩, k2⟩
  clear hP1
  have hP2 := vpopMF H2 (drop_fs HX.out.2.1 1) Hop.out.2.1 (by simp only [List.length_take]; have := HX.out.2.2.2.2; omega) (by simp only [List.length_take]; have := Hop.out.2.2.1; omega)
  rw [Hop.out.1] at hP2
  have hlt2 := H2.rlt
  have Hz2 : Hid (MZ (w.drewN m) rn hm C I (dropO V 1) M P w2) := ⟨H2.e, k2⟩
  clear H2 k2 hlt1
  go_wp2_with fail
  refine hP2.mono ?_
  rintro v w3 ⟨rfl, ⟨col3, cv3, iv3, ov3, fv3, g3, H3⟩, k3⟩
  clear hP2
  rw [drop_drop HX.out.2.1] at H3
  have Hz3 : Hid (MZ w2 rn hm C I (dropO V 2) M (Gw P (w.drewN m) w2) w3) := ⟨H3.e, k3⟩
  have hlt3 := H3.rlt
  have c8 := H3.cl' (o := 8) (by omega)
  simp only [rC] at c8
  have hz3 := H3.blk.frozen
  have HK : Hid _ := And.intro H3 (H3.s_en 25)
  clear H3 k3 hlt2
  go_wp2_with fail
  refine bodyPost_ret (v := .tuple #[]) (by simp [results, Tryz.results90, go_sem]) rfl ?_
  rw [HXE.out]
  have hz : MZ w rn hm C I V M P (w.drewN m) := Hz.out
  have h12 : MZ w rn hm C I (dropO V 1) M P w2 := hz.nx (fun c q => .inl q) Hz2.out
  have h13 : MZ w rn hm C I (dropO V 2) M P w3 := h12.nx (fun c q => q.elim .inl (fun q => .inr ⟨q.1, q.2⟩)) Hz3.out
  have h4 := HK.out.1.zs HK.out.2 ((Fr.refl (fun c => c = rn) w3).setC rn 8 (.int .i64 25) (fun _ => rfl))
  exact ⟨rfl, h13.nx (fun c q => by
    have s3 := Hz3.out.2.size
    have s2 := Hz2.out.2.size
    have s1 := hz.2.size
    rcases q with (q | q) | q
    · exact .inl q
    · exact .inr ⟨q.1, by have := q.2; omega⟩
    · exact .inr ⟨by have := q.1; omega, q.2⟩) h4⟩
set_option maxRecDepth 100000 in
set_option maxHeartbeats 600000 in
theorem bin12 (H : MR w rn hm C I V M col P cv iv ov fv g) (hf : V.fs = f :: r) (h24 : M.rt.length ≤ 24) (hq : f.rb + f.lr ≤ M.rt.length) (hu : usedF V.fs ≤ V.most) (hmo : V.most ≤ 48) (h2 : 2 ≤ f.ops.length) (hb : opn V 0 ≠ 0) : Calls Tryz.prog 90 #[.pointer (some ⟨rn, 0, none⟩), .int .i64 12] w fun e w' => e = .returned (.tuple #[]) ∧ MZ w rn hm C I (putO V 2 (arithI 12 (opn V 1) (opn V 0))) M P w' := by
  obtain ⟨X, hX⟩ : ∃ X, X = putO V 2 (arithI 12 (opn V 1) (opn V 0)) := ⟨_, rfl⟩
  rw [← hX]
  have HXE : Hid _ := hX
  clear hX
  have hsum : usedF V.fs = 3 + f.loc.length + f.ops.length + usedF r := by rw [hf]; rfl
  have hrl := lenUsed r
  have hN := need_ok H hf h24 (by omega) (by omega) 2 0 h2 (by omega)
  rw [show ((2 : Nat) : Int) = 2 from rfl, show ((0 : Nat) : Int) = 0 from rfl] at hN
  have HX : Hid _ := And.intro H (And.intro hf (And.intro hu (And.intro hmo h2)))
  have hlt := H.rlt
  have h48 : r.length ≤ 48 ∧ f.ops.length ≤ 48 ∧ usedF V.fs ≤ 48 := by omega
  have hopd := opn_drop hf h2
  have Hop : Hid _ := And.intro hopd h48
  clear H hf hu hmo h2 hsum hrl hopd h48 h24 hq
  go_enter Tryz.func90, Tryz.ntmps90
  go_wp2_with fail
  refine hN.mono ?_
  rintro v w1 ⟨rfl, m, rfl⟩
  clear hN
  have H1 := HX.out.1.same ((Fr.refl (fun _ => False) w).drewN m)
  have hP1 := vpopMF H1 HX.out.2.1 Hop.out.2.1 (by have := HX.out.2.2.2.2; omega) Hop.out.2.2.1
  have hlt1 := H1.rlt
  have kz : MZ w rn hm C I V M P (w.drewN m) := HX.out.1.e.z0 ((Fr.refl (fun _ => False) w).drewN m)
  have Hz : Hid _ := kz
  clear H1 hlt kz
  go_wp2_with fail
  refine hP1.mono ?_
  rintro v w2 ⟨rfl, ⟨col2, cv2, iv2, ov2, fv2, g2, H2⟩, k2⟩
  clear hP1
  have hP2 := vpopMF H2 (drop_fs HX.out.2.1 1) Hop.out.2.1 (by simp only [List.length_take]; have := HX.out.2.2.2.2; omega) (by simp only [List.length_take]; have := Hop.out.2.2.1; omega)
  rw [Hop.out.1] at hP2
  have hlt2 := H2.rlt
  have Hz2 : Hid (MZ (w.drewN m) rn hm C I (dropO V 1) M P w2) := ⟨H2.e, k2⟩
  clear H2 k2 hlt1
  go_wp2_with fail
  refine hP2.mono ?_
  rintro v w3 ⟨rfl, ⟨col3, cv3, iv3, ov3, fv3, g3, H3⟩, k3⟩
  clear hP2
  rw [drop_drop HX.out.2.1] at H3
  have Hz3 : Hid (MZ w2 rn hm C I (dropO V 2) M (Gw P (w.drewN m) w2) w3) := ⟨H3.e, k3⟩
  have hlt3 := H3.rlt
  have hQ := vpushMF H3 (drop_fs HX.out.2.1 2) (by have := drop_used HX.out.2.1 2 HX.out.2.2.2.2; have := Hop.out.2.2.2; omega) (by rw [drop_most]; exact HX.out.2.2.2.1) (arithI 12 (opn V 1) (opn V 0))
  have HP : Hid (X = pushV (dropO V 2) (arithI 12 (opn V 1) (opn V 0))) := HXE.out.trans (push_put HX.out.2.1 2 (by omega) HX.out.2.2.2.2 Hop.out.2.2.2 HX.out.2.2.1 _).symm
  clear H3 k3 hlt2
  have hF := remF (opn V 1) (opn V 0) hb
  rw [show arithI 12 (opn V 1) (opn V 0) = remI (opn V 1) (opn V 0) from rfl] at hQ HP
  generalize opn V 1 = a at *
  generalize opn V 0 = b at *
  have yb : (b == 0) = false := by simpa using hb
  generalize remI a b = qv at *
  go_wp2_with fail
  refine (hF _).mono ?_
  rintro v w3 ⟨rfl, rfl⟩
  go_wp2_with fail
  refine hQ.mono ?_
  rintro v w4 ⟨rfl, h4⟩
  go_wp2_with fail
  go_end0
  have hz : MZ w rn hm C I V M P (w.drewN m) := Hz.out
  have h12 : MZ w rn hm C I (dropO V 1) M P w2 := hz.nx (fun c q => .inl q) Hz2.out
  have h13 : MZ w rn hm C I (dropO V 2) M P w3 := h12.nx (fun c q => q.elim .inl (fun q => .inr ⟨q.1, q.2⟩)) Hz3.out
  rw [HP.out]
  exact ⟨rfl, h13.nx (fun c q => by
    have s3 := Hz3.out.2.size
    have s2 := Hz2.out.2.size
    have s1 := hz.2.size
    rcases q with (q | q) | q
    · exact .inl q
    · exact .inr ⟨q.1, by have := q.2; omega⟩
    · exact .inr ⟨by have := q.1; omega, q.2⟩) h4⟩
set_option maxRecDepth 100000 in
set_option maxHeartbeats 600000 in
theorem bin12z (H : MR w rn hm C I V M col P cv iv ov fv g) (hf : V.fs = f :: r) (h24 : M.rt.length ≤ 24) (hq : f.rb + f.lr ≤ M.rt.length) (hu : usedF V.fs ≤ V.most) (hmo : V.most ≤ 48) (h2 : 2 ≤ f.ops.length) (hb : opn V 0 = 0) : Calls Tryz.prog 90 #[.pointer (some ⟨rn, 0, none⟩), .int .i64 12] w fun e w' => e = .returned (.tuple #[]) ∧ MZ w rn hm C I ((dropO V 2).die 25) M P w' := by
  obtain ⟨X, hX⟩ : ∃ X, X = (dropO V 2).die 25 := ⟨_, rfl⟩
  rw [← hX]
  have HXE : Hid _ := hX
  clear hX
  have hsum : usedF V.fs = 3 + f.loc.length + f.ops.length + usedF r := by rw [hf]; rfl
  have hrl := lenUsed r
  have hN := need_ok H hf h24 (by omega) (by omega) 2 0 h2 (by omega)
  rw [show ((2 : Nat) : Int) = 2 from rfl, show ((0 : Nat) : Int) = 0 from rfl] at hN
  have HX : Hid _ := And.intro H (And.intro hf (And.intro hu (And.intro hmo h2)))
  have hlt := H.rlt
  have h48 : r.length ≤ 48 ∧ f.ops.length ≤ 48 ∧ usedF V.fs ≤ 48 := by omega
  have hopd := opn_drop hf h2
  have Hop : Hid _ := And.intro hopd h48
  clear H hf hu hmo h2 hsum hrl hopd h48 h24 hq
  go_enter Tryz.func90, Tryz.ntmps90
  go_wp2_with fail
  refine hN.mono ?_
  rintro v w1 ⟨rfl, m, rfl⟩
  clear hN
  have H1 := HX.out.1.same ((Fr.refl (fun _ => False) w).drewN m)
  have hP1 := vpopMF H1 HX.out.2.1 Hop.out.2.1 (by have := HX.out.2.2.2.2; omega) Hop.out.2.2.1
  have hlt1 := H1.rlt
  have kz : MZ w rn hm C I V M P (w.drewN m) := HX.out.1.e.z0 ((Fr.refl (fun _ => False) w).drewN m)
  have Hz : Hid _ := kz
  clear H1 hlt kz
  go_wp2_with fail
  refine hP1.mono ?_
  rintro v w2 ⟨rfl, ⟨col2, cv2, iv2, ov2, fv2, g2, H2⟩, k2⟩
  clear hP1
  have hP2 := vpopMF H2 (drop_fs HX.out.2.1 1) Hop.out.2.1 (by simp only [List.length_take]; have := HX.out.2.2.2.2; omega) (by simp only [List.length_take]; have := Hop.out.2.2.1; omega)
  rw [Hop.out.1] at hP2
  have hlt2 := H2.rlt
  have Hz2 : Hid (MZ (w.drewN m) rn hm C I (dropO V 1) M P w2) := ⟨H2.e, k2⟩
  clear H2 k2 hlt1
  go_wp2_with fail
  refine hP2.mono ?_
  rintro v w3 ⟨rfl, ⟨col3, cv3, iv3, ov3, fv3, g3, H3⟩, k3⟩
  clear hP2
  rw [drop_drop HX.out.2.1] at H3
  have Hz3 : Hid (MZ w2 rn hm C I (dropO V 2) M (Gw P (w.drewN m) w2) w3) := ⟨H3.e, k3⟩
  have hlt3 := H3.rlt
  have c8 := H3.cl' (o := 8) (by omega)
  simp only [rC] at c8
  have hz3 := H3.blk.frozen
  have HK : Hid _ := And.intro H3 (H3.s_en 25)
  clear H3 k3 hlt2
  go_wp2_with fail
  refine bodyPost_ret (v := .tuple #[]) (by simp [results, Tryz.results90, go_sem]) rfl ?_
  rw [HXE.out]
  have hz : MZ w rn hm C I V M P (w.drewN m) := Hz.out
  have h12 : MZ w rn hm C I (dropO V 1) M P w2 := hz.nx (fun c q => .inl q) Hz2.out
  have h13 : MZ w rn hm C I (dropO V 2) M P w3 := h12.nx (fun c q => q.elim .inl (fun q => .inr ⟨q.1, q.2⟩)) Hz3.out
  have h4 := HK.out.1.zs HK.out.2 ((Fr.refl (fun c => c = rn) w3).setC rn 8 (.int .i64 25) (fun _ => rfl))
  exact ⟨rfl, h13.nx (fun c q => by
    have s3 := Hz3.out.2.size
    have s2 := Hz2.out.2.size
    have s1 := hz.2.size
    rcases q with (q | q) | q
    · exact .inl q
    · exact .inr ⟨q.1, by have := q.2; omega⟩
    · exact .inr ⟨by have := q.1; omega, q.2⟩) h4⟩
set_option maxRecDepth 100000 in
set_option maxHeartbeats 600000 in
theorem bin15 (H : MR w rn hm C I V M col P cv iv ov fv g) (hf : V.fs = f :: r) (h24 : M.rt.length ≤ 24) (hq : f.rb + f.lr ≤ M.rt.length) (hu : usedF V.fs ≤ V.most) (hmo : V.most ≤ 48) (h2 : 2 ≤ f.ops.length) : Calls Tryz.prog 90 #[.pointer (some ⟨rn, 0, none⟩), .int .i64 15] w fun e w' => e = .returned (.tuple #[]) ∧ MZ w rn hm C I (putO V 2 (compI 15 (opn V 1) (opn V 0))) M P w' := by
  obtain ⟨X, hX⟩ : ∃ X, X = putO V 2 (compI 15 (opn V 1) (opn V 0)) := ⟨_, rfl⟩
  rw [← hX]
  have HXE : Hid _ := hX
  clear hX
  have hsum : usedF V.fs = 3 + f.loc.length + f.ops.length + usedF r := by rw [hf]; rfl
  have hrl := lenUsed r
  have hN := need_ok H hf h24 (by omega) (by omega) 2 0 h2 (by omega)
  rw [show ((2 : Nat) : Int) = 2 from rfl, show ((0 : Nat) : Int) = 0 from rfl] at hN
  have HX : Hid _ := And.intro H (And.intro hf (And.intro hu (And.intro hmo h2)))
  have hlt := H.rlt
  have h48 : r.length ≤ 48 ∧ f.ops.length ≤ 48 ∧ usedF V.fs ≤ 48 := by omega
  have hopd := opn_drop hf h2
  have Hop : Hid _ := And.intro hopd h48
  clear H hf hu hmo h2 hsum hrl hopd h48 h24 hq
  go_enter Tryz.func90, Tryz.ntmps90
  go_wp2_with fail
  refine hN.mono ?_
  rintro v w1 ⟨rfl, m, rfl⟩
  clear hN
  have H1 := HX.out.1.same ((Fr.refl (fun _ => False) w).drewN m)
  have hP1 := vpopMF H1 HX.out.2.1 Hop.out.2.1 (by have := HX.out.2.2.2.2; omega) Hop.out.2.2.1
  have hlt1 := H1.rlt
  have kz : MZ w rn hm C I V M P (w.drewN m) := HX.out.1.e.z0 ((Fr.refl (fun _ => False) w).drewN m)
  have Hz : Hid _ := kz
  clear H1 hlt kz
  go_wp2_with fail
  refine hP1.mono ?_
  rintro v w2 ⟨rfl, ⟨col2, cv2, iv2, ov2, fv2, g2, H2⟩, k2⟩
  clear hP1
  have hP2 := vpopMF H2 (drop_fs HX.out.2.1 1) Hop.out.2.1 (by simp only [List.length_take]; have := HX.out.2.2.2.2; omega) (by simp only [List.length_take]; have := Hop.out.2.2.1; omega)
  rw [Hop.out.1] at hP2
  have hlt2 := H2.rlt
  have Hz2 : Hid (MZ (w.drewN m) rn hm C I (dropO V 1) M P w2) := ⟨H2.e, k2⟩
  clear H2 k2 hlt1
  go_wp2_with fail
  refine hP2.mono ?_
  rintro v w3 ⟨rfl, ⟨col3, cv3, iv3, ov3, fv3, g3, H3⟩, k3⟩
  clear hP2
  rw [drop_drop HX.out.2.1] at H3
  have Hz3 : Hid (MZ w2 rn hm C I (dropO V 2) M (Gw P (w.drewN m) w2) w3) := ⟨H3.e, k3⟩
  have hlt3 := H3.rlt
  have hQ := vpushMF H3 (drop_fs HX.out.2.1 2) (by have := drop_used HX.out.2.1 2 HX.out.2.2.2.2; have := Hop.out.2.2.2; omega) (by rw [drop_most]; exact HX.out.2.2.2.1) (compI 15 (opn V 1) (opn V 0))
  have HP : Hid (X = pushV (dropO V 2) (compI 15 (opn V 1) (opn V 0))) := HXE.out.trans (push_put HX.out.2.1 2 (by omega) HX.out.2.2.2.2 Hop.out.2.2.2 HX.out.2.2.1 _).symm
  clear H3 k3 hlt2
  rw [show compI 15 (opn V 1) (opn V 0) = flagI (decide (opn V 1 = opn V 0)) from rfl] at hQ HP
  obtain ⟨tb, htb⟩ : ∃ tb : Bool, decide (opn V 1 = opn V 0) = tb := ⟨_, rfl⟩
  rw [htb] at hQ HP
  generalize opn V 1 = a at *
  generalize opn V 0 = b at *
  have t1 : (a == b) = tb := by rw [← htb]; by_cases h : a = b <;> simp [h]
  clear htb
  have hF := b2iF tb
  generalize flagI tb = fl at *
  go_wp2_with fail
  refine (hF _).mono ?_
  rintro v w3 ⟨rfl, rfl⟩
  go_wp2_with fail
  refine hQ.mono ?_
  rintro v w4 ⟨rfl, h4⟩
  go_wp2_with fail
  go_end0
  have hz : MZ w rn hm C I V M P (w.drewN m) := Hz.out
  have h12 : MZ w rn hm C I (dropO V 1) M P w2 := hz.nx (fun c q => .inl q) Hz2.out
  have h13 : MZ w rn hm C I (dropO V 2) M P w3 := h12.nx (fun c q => q.elim .inl (fun q => .inr ⟨q.1, q.2⟩)) Hz3.out
  rw [HP.out]
  exact ⟨rfl, h13.nx (fun c q => by
    have s3 := Hz3.out.2.size
    have s2 := Hz2.out.2.size
    have s1 := hz.2.size
    rcases q with (q | q) | q
    · exact .inl q
    · exact .inr ⟨q.1, by have := q.2; omega⟩
    · exact .inr ⟨by have := q.1; omega, q.2⟩) h4⟩
set_option maxRecDepth 100000 in
set_option maxHeartbeats 600000 in
theorem bin16 (H : MR w rn hm C I V M col P cv iv ov fv g) (hf : V.fs = f :: r) (h24 : M.rt.length ≤ 24) (hq : f.rb + f.lr ≤ M.rt.length) (hu : usedF V.fs ≤ V.most) (hmo : V.most ≤ 48) (h2 : 2 ≤ f.ops.length) : Calls Tryz.prog 90 #[.pointer (some ⟨rn, 0, none⟩), .int .i64 16] w fun e w' => e = .returned (.tuple #[]) ∧ MZ w rn hm C I (putO V 2 (compI 16 (opn V 1) (opn V 0))) M P w' := by
  obtain ⟨X, hX⟩ : ∃ X, X = putO V 2 (compI 16 (opn V 1) (opn V 0)) := ⟨_, rfl⟩
  rw [← hX]
  have HXE : Hid _ := hX
  clear hX
  have hsum : usedF V.fs = 3 + f.loc.length + f.ops.length + usedF r := by rw [hf]; rfl
  have hrl := lenUsed r
  have hN := need_ok H hf h24 (by omega) (by omega) 2 0 h2 (by omega)
  rw [show ((2 : Nat) : Int) = 2 from rfl, show ((0 : Nat) : Int) = 0 from rfl] at hN
  have HX : Hid _ := And.intro H (And.intro hf (And.intro hu (And.intro hmo h2)))
  have hlt := H.rlt
  have h48 : r.length ≤ 48 ∧ f.ops.length ≤ 48 ∧ usedF V.fs ≤ 48 := by omega
  have hopd := opn_drop hf h2
  have Hop : Hid _ := And.intro hopd h48
  clear H hf hu hmo h2 hsum hrl hopd h48 h24 hq
  go_enter Tryz.func90, Tryz.ntmps90
  go_wp2_with fail
  refine hN.mono ?_
  rintro v w1 ⟨rfl, m, rfl⟩
  clear hN
  have H1 := HX.out.1.same ((Fr.refl (fun _ => False) w).drewN m)
  have hP1 := vpopMF H1 HX.out.2.1 Hop.out.2.1 (by have := HX.out.2.2.2.2; omega) Hop.out.2.2.1
  have hlt1 := H1.rlt
  have kz : MZ w rn hm C I V M P (w.drewN m) := HX.out.1.e.z0 ((Fr.refl (fun _ => False) w).drewN m)
  have Hz : Hid _ := kz
  clear H1 hlt kz
  go_wp2_with fail
  refine hP1.mono ?_
  rintro v w2 ⟨rfl, ⟨col2, cv2, iv2, ov2, fv2, g2, H2⟩, k2⟩
  clear hP1
  have hP2 := vpopMF H2 (drop_fs HX.out.2.1 1) Hop.out.2.1 (by simp only [List.length_take]; have := HX.out.2.2.2.2; omega) (by simp only [List.length_take]; have := Hop.out.2.2.1; omega)
  rw [Hop.out.1] at hP2
  have hlt2 := H2.rlt
  have Hz2 : Hid (MZ (w.drewN m) rn hm C I (dropO V 1) M P w2) := ⟨H2.e, k2⟩
  clear H2 k2 hlt1
  go_wp2_with fail
  refine hP2.mono ?_
  rintro v w3 ⟨rfl, ⟨col3, cv3, iv3, ov3, fv3, g3, H3⟩, k3⟩
  clear hP2
  rw [drop_drop HX.out.2.1] at H3
  have Hz3 : Hid (MZ w2 rn hm C I (dropO V 2) M (Gw P (w.drewN m) w2) w3) := ⟨H3.e, k3⟩
  have hlt3 := H3.rlt
  have hQ := vpushMF H3 (drop_fs HX.out.2.1 2) (by have := drop_used HX.out.2.1 2 HX.out.2.2.2.2; have := Hop.out.2.2.2; omega) (by rw [drop_most]; exact HX.out.2.2.2.1) (compI 16 (opn V 1) (opn V 0))
  have HP : Hid (X = pushV (dropO V 2) (compI 16 (opn V 1) (opn V 0))) := HXE.out.trans (push_put HX.out.2.1 2 (by omega) HX.out.2.2.2.2 Hop.out.2.2.2 HX.out.2.2.1 _).symm
  clear H3 k3 hlt2
  rw [show compI 16 (opn V 1) (opn V 0) = flagI (decide (opn V 1 ≠ opn V 0)) from rfl] at hQ HP
  obtain ⟨tb, htb⟩ : ∃ tb : Bool, decide (opn V 1 ≠ opn V 0) = tb := ⟨_, rfl⟩
  rw [htb] at hQ HP
  generalize opn V 1 = a at *
  generalize opn V 0 = b at *
  have t1 : (a != b) = tb := by rw [← htb]; by_cases h : a = b <;> simp [h]
  clear htb
  have hF := b2iF tb
  generalize flagI tb = fl at *
  go_wp2_with fail
  refine (hF _).mono ?_
  rintro v w3 ⟨rfl, rfl⟩
  go_wp2_with fail
  refine hQ.mono ?_
  rintro v w4 ⟨rfl, h4⟩
  go_wp2_with fail
  go_end0
  have hz : MZ w rn hm C I V M P (w.drewN m) := Hz.out
  have h12 : MZ w rn hm C I (dropO V 1) M P w2 := hz.nx (fun c q => .inl q) Hz2.out
  have h13 : MZ w rn hm C I (dropO V 2) M P w3 := h12.nx (fun c q => q.elim .inl (fun q => .inr ⟨q.1, q.2⟩)) Hz3.out
  rw [HP.out]
  exact ⟨rfl, h13.nx (fun c q => by
    have s3 := Hz3.out.2.size
    have s2 := Hz2.out.2.size
    have s1 := hz.2.size
    rcases q with (q | q) | q
    · exact .inl q
    · exact .inr ⟨q.1, by have := q.2; omega⟩
    · exact .inr ⟨by have := q.1; omega, q.2⟩) h4⟩
set_option maxRecDepth 100000 in
set_option maxHeartbeats 600000 in
theorem bin17 (H : MR w rn hm C I V M col P cv iv ov fv g) (hf : V.fs = f :: r) (h24 : M.rt.length ≤ 24) (hq : f.rb + f.lr ≤ M.rt.length) (hu : usedF V.fs ≤ V.most) (hmo : V.most ≤ 48) (h2 : 2 ≤ f.ops.length) : Calls Tryz.prog 90 #[.pointer (some ⟨rn, 0, none⟩), .int .i64 17] w fun e w' => e = .returned (.tuple #[]) ∧ MZ w rn hm C I (putO V 2 (compI 17 (opn V 1) (opn V 0))) M P w' := by
  obtain ⟨X, hX⟩ : ∃ X, X = putO V 2 (compI 17 (opn V 1) (opn V 0)) := ⟨_, rfl⟩
  rw [← hX]
  have HXE : Hid _ := hX
  clear hX
  have hsum : usedF V.fs = 3 + f.loc.length + f.ops.length + usedF r := by rw [hf]; rfl
  have hrl := lenUsed r
  have hN := need_ok H hf h24 (by omega) (by omega) 2 0 h2 (by omega)
  rw [show ((2 : Nat) : Int) = 2 from rfl, show ((0 : Nat) : Int) = 0 from rfl] at hN
  have HX : Hid _ := And.intro H (And.intro hf (And.intro hu (And.intro hmo h2)))
  have hlt := H.rlt
  have h48 : r.length ≤ 48 ∧ f.ops.length ≤ 48 ∧ usedF V.fs ≤ 48 := by omega
  have hopd := opn_drop hf h2
  have Hop : Hid _ := And.intro hopd h48
  clear H hf hu hmo h2 hsum hrl hopd h48 h24 hq
  go_enter Tryz.func90, Tryz.ntmps90
  go_wp2_with fail
  refine hN.mono ?_
  rintro v w1 ⟨rfl, m, rfl⟩
  clear hN
  have H1 := HX.out.1.same ((Fr.refl (fun _ => False) w).drewN m)
  have hP1 := vpopMF H1 HX.out.2.1 Hop.out.2.1 (by have := HX.out.2.2.2.2; omega) Hop.out.2.2.1
  have hlt1 := H1.rlt
  have kz : MZ w rn hm C I V M P (w.drewN m) := HX.out.1.e.z0 ((Fr.refl (fun _ => False) w).drewN m)
  have Hz : Hid _ := kz
  clear H1 hlt kz
  go_wp2_with fail
  refine hP1.mono ?_
  rintro v w2 ⟨rfl, ⟨col2, cv2, iv2, ov2, fv2, g2, H2⟩, k2⟩
  clear hP1
  have hP2 := vpopMF H2 (drop_fs HX.out.2.1 1) Hop.out.2.1 (by simp only [List.length_take]; have := HX.out.2.2.2.2; omega) (by simp only [List.length_take]; have := Hop.out.2.2.1; omega)
  rw [Hop.out.1] at hP2
  have hlt2 := H2.rlt
  have Hz2 : Hid (MZ (w.drewN m) rn hm C I (dropO V 1) M P w2) := ⟨H2.e, k2⟩
  clear H2 k2 hlt1
  go_wp2_with fail
  refine hP2.mono ?_
  rintro v w3 ⟨rfl, ⟨col3, cv3, iv3, ov3, fv3, g3, H3⟩, k3⟩
  clear hP2
  rw [drop_drop HX.out.2.1] at H3
  have Hz3 : Hid (MZ w2 rn hm C I (dropO V 2) M (Gw P (w.drewN m) w2) w3) := ⟨H3.e, k3⟩
  have hlt3 := H3.rlt
  have hQ := vpushMF H3 (drop_fs HX.out.2.1 2) (by have := drop_used HX.out.2.1 2 HX.out.2.2.2.2; have := Hop.out.2.2.2; omega) (by rw [drop_most]; exact HX.out.2.2.2.1) (compI 17 (opn V 1) (opn V 0))
  have HP : Hid (X = pushV (dropO V 2) (compI 17 (opn V 1) (opn V 0))) := HXE.out.trans (push_put HX.out.2.1 2 (by omega) HX.out.2.2.2.2 Hop.out.2.2.2 HX.out.2.2.1 _).symm
  clear H3 k3 hlt2
  rw [show compI 17 (opn V 1) (opn V 0) = flagI (decide (opn V 1 < opn V 0)) from rfl] at hQ HP
  obtain ⟨tb, htb⟩ : ∃ tb : Bool, decide (opn V 1 < opn V 0) = tb := ⟨_, rfl⟩
  rw [htb] at hQ HP
  generalize opn V 1 = a at *
  generalize opn V 0 = b at *
  have t1 : decide (a < b) = tb := by rw [← htb]
  clear htb
  have hF := b2iF tb
  generalize flagI tb = fl at *
  go_wp2_with fail
  refine (hF _).mono ?_
  rintro v w3 ⟨rfl, rfl⟩
  go_wp2_with fail
  refine hQ.mono ?_
  rintro v w4 ⟨rfl, h4⟩
  go_wp2_with fail
  go_end0
  have hz : MZ w rn hm C I V M P (w.drewN m) := Hz.out
  have h12 : MZ w rn hm C I (dropO V 1) M P w2 := hz.nx (fun c q => .inl q) Hz2.out
  have h13 : MZ w rn hm C I (dropO V 2) M P w3 := h12.nx (fun c q => q.elim .inl (fun q => .inr ⟨q.1, q.2⟩)) Hz3.out
  rw [HP.out]
  exact ⟨rfl, h13.nx (fun c q => by
    have s3 := Hz3.out.2.size
    have s2 := Hz2.out.2.size
    have s1 := hz.2.size
    rcases q with (q | q) | q
    · exact .inl q
    · exact .inr ⟨q.1, by have := q.2; omega⟩
    · exact .inr ⟨by have := q.1; omega, q.2⟩) h4⟩
set_option maxRecDepth 100000 in
set_option maxHeartbeats 600000 in
theorem bin18 (H : MR w rn hm C I V M col P cv iv ov fv g) (hf : V.fs = f :: r) (h24 : M.rt.length ≤ 24) (hq : f.rb + f.lr ≤ M.rt.length) (hu : usedF V.fs ≤ V.most) (hmo : V.most ≤ 48) (h2 : 2 ≤ f.ops.length) : Calls Tryz.prog 90 #[.pointer (some ⟨rn, 0, none⟩), .int .i64 18] w fun e w' => e = .returned (.tuple #[]) ∧ MZ w rn hm C I (putO V 2 (compI 18 (opn V 1) (opn V 0))) M P w' := by
  obtain ⟨X, hX⟩ : ∃ X, X = putO V 2 (compI 18 (opn V 1) (opn V 0)) := ⟨_, rfl⟩
  rw [← hX]
  have HXE : Hid _ := hX
  clear hX
  have hsum : usedF V.fs = 3 + f.loc.length + f.ops.length + usedF r := by rw [hf]; rfl
  have hrl := lenUsed r
  have hN := need_ok H hf h24 (by omega) (by omega) 2 0 h2 (by omega)
  rw [show ((2 : Nat) : Int) = 2 from rfl, show ((0 : Nat) : Int) = 0 from rfl] at hN
  have HX : Hid _ := And.intro H (And.intro hf (And.intro hu (And.intro hmo h2)))
  have hlt := H.rlt
  have h48 : r.length ≤ 48 ∧ f.ops.length ≤ 48 ∧ usedF V.fs ≤ 48 := by omega
  have hopd := opn_drop hf h2
  have Hop : Hid _ := And.intro hopd h48
  clear H hf hu hmo h2 hsum hrl hopd h48 h24 hq
  go_enter Tryz.func90, Tryz.ntmps90
  go_wp2_with fail
  refine hN.mono ?_
  rintro v w1 ⟨rfl, m, rfl⟩
  clear hN
  have H1 := HX.out.1.same ((Fr.refl (fun _ => False) w).drewN m)
  have hP1 := vpopMF H1 HX.out.2.1 Hop.out.2.1 (by have := HX.out.2.2.2.2; omega) Hop.out.2.2.1
  have hlt1 := H1.rlt
  have kz : MZ w rn hm C I V M P (w.drewN m) := HX.out.1.e.z0 ((Fr.refl (fun _ => False) w).drewN m)
  have Hz : Hid _ := kz
  clear H1 hlt kz
  go_wp2_with fail
  refine hP1.mono ?_
  rintro v w2 ⟨rfl, ⟨col2, cv2, iv2, ov2, fv2, g2, H2⟩, k2⟩
  clear hP1
  have hP2 := vpopMF H2 (drop_fs HX.out.2.1 1) Hop.out.2.1 (by simp only [List.length_take]; have := HX.out.2.2.2.2; omega) (by simp only [List.length_take]; have := Hop.out.2.2.1; omega)
  rw [Hop.out.1] at hP2
  have hlt2 := H2.rlt
  have Hz2 : Hid (MZ (w.drewN m) rn hm C I (dropO V 1) M P w2) := ⟨H2.e, k2⟩
  clear H2 k2 hlt1
  go_wp2_with fail
  refine hP2.mono ?_
  rintro v w3 ⟨rfl, ⟨col3, cv3, iv3, ov3, fv3, g3, H3⟩, k3⟩
  clear hP2
  rw [drop_drop HX.out.2.1] at H3
  have Hz3 : Hid (MZ w2 rn hm C I (dropO V 2) M (Gw P (w.drewN m) w2) w3) := ⟨H3.e, k3⟩
  have hlt3 := H3.rlt
  have hQ := vpushMF H3 (drop_fs HX.out.2.1 2) (by have := drop_used HX.out.2.1 2 HX.out.2.2.2.2; have := Hop.out.2.2.2; omega) (by rw [drop_most]; exact HX.out.2.2.2.1) (compI 18 (opn V 1) (opn V 0))
  have HP : Hid (X = pushV (dropO V 2) (compI 18 (opn V 1) (opn V 0))) := HXE.out.trans (push_put HX.out.2.1 2 (by omega) HX.out.2.2.2.2 Hop.out.2.2.2 HX.out.2.2.1 _).symm
  clear H3 k3 hlt2
  rw [show compI 18 (opn V 1) (opn V 0) = flagI (decide (opn V 1 ≤ opn V 0)) from rfl] at hQ HP
  obtain ⟨tb, htb⟩ : ∃ tb : Bool, decide (opn V 1 ≤ opn V 0) = tb := ⟨_, rfl⟩
  rw [htb] at hQ HP
  generalize opn V 1 = a at *
  generalize opn V 0 = b at *
  have t1 : decide (a ≤ b) = tb := by rw [← htb]
  clear htb
  have hF := b2iF tb
  generalize flagI tb = fl at *
  go_wp2_with fail
  refine (hF _).mono ?_
  rintro v w3 ⟨rfl, rfl⟩
  go_wp2_with fail
  refine hQ.mono ?_
  rintro v w4 ⟨rfl, h4⟩
  go_wp2_with fail
  go_end0
  have hz : MZ w rn hm C I V M P (w.drewN m) := Hz.out
  have h12 : MZ w rn hm C I (dropO V 1) M P w2 := hz.nx (fun c q => .inl q) Hz2.out
  have h13 : MZ w rn hm C I (dropO V 2) M P w3 := h12.nx (fun c q => q.elim .inl (fun q => .inr ⟨q.1, q.2⟩)) Hz3.out
  rw [HP.out]
  exact ⟨rfl, h13.nx (fun c q => by
    have s3 := Hz3.out.2.size
    have s2 := Hz2.out.2.size
    have s1 := hz.2.size
    rcases q with (q | q) | q
    · exact .inl q
    · exact .inr ⟨q.1, by have := q.2; omega⟩
    · exact .inr ⟨by have := q.1; omega, q.2⟩) h4⟩
set_option maxRecDepth 100000 in
set_option maxHeartbeats 600000 in
theorem bin19 (H : MR w rn hm C I V M col P cv iv ov fv g) (hf : V.fs = f :: r) (h24 : M.rt.length ≤ 24) (hq : f.rb + f.lr ≤ M.rt.length) (hu : usedF V.fs ≤ V.most) (hmo : V.most ≤ 48) (h2 : 2 ≤ f.ops.length) : Calls Tryz.prog 90 #[.pointer (some ⟨rn, 0, none⟩), .int .i64 19] w fun e w' => e = .returned (.tuple #[]) ∧ MZ w rn hm C I (putO V 2 (compI 19 (opn V 1) (opn V 0))) M P w' := by
  obtain ⟨X, hX⟩ : ∃ X, X = putO V 2 (compI 19 (opn V 1) (opn V 0)) := ⟨_, rfl⟩
  rw [← hX]
  have HXE : Hid _ := hX
  clear hX
  have hsum : usedF V.fs = 3 + f.loc.length + f.ops.length + usedF r := by rw [hf]; rfl
  have hrl := lenUsed r
  have hN := need_ok H hf h24 (by omega) (by omega) 2 0 h2 (by omega)
  rw [show ((2 : Nat) : Int) = 2 from rfl, show ((0 : Nat) : Int) = 0 from rfl] at hN
  have HX : Hid _ := And.intro H (And.intro hf (And.intro hu (And.intro hmo h2)))
  have hlt := H.rlt
  have h48 : r.length ≤ 48 ∧ f.ops.length ≤ 48 ∧ usedF V.fs ≤ 48 := by omega
  have hopd := opn_drop hf h2
  have Hop : Hid _ := And.intro hopd h48
  clear H hf hu hmo h2 hsum hrl hopd h48 h24 hq
  go_enter Tryz.func90, Tryz.ntmps90
  go_wp2_with fail
  refine hN.mono ?_
  rintro v w1 ⟨rfl, m, rfl⟩
  clear hN
  have H1 := HX.out.1.same ((Fr.refl (fun _ => False) w).drewN m)
  have hP1 := vpopMF H1 HX.out.2.1 Hop.out.2.1 (by have := HX.out.2.2.2.2; omega) Hop.out.2.2.1
  have hlt1 := H1.rlt
  have kz : MZ w rn hm C I V M P (w.drewN m) := HX.out.1.e.z0 ((Fr.refl (fun _ => False) w).drewN m)
  have Hz : Hid _ := kz
  clear H1 hlt kz
  go_wp2_with fail
  refine hP1.mono ?_
  rintro v w2 ⟨rfl, ⟨col2, cv2, iv2, ov2, fv2, g2, H2⟩, k2⟩
  clear hP1
  have hP2 := vpopMF H2 (drop_fs HX.out.2.1 1) Hop.out.2.1 (by simp only [List.length_take]; have := HX.out.2.2.2.2; omega) (by simp only [List.length_take]; have := Hop.out.2.2.1; omega)
  rw [Hop.out.1] at hP2
  have hlt2 := H2.rlt
  have Hz2 : Hid (MZ (w.drewN m) rn hm C I (dropO V 1) M P w2) := ⟨H2.e, k2⟩
  clear H2 k2 hlt1
  go_wp2_with fail
  refine hP2.mono ?_
  rintro v w3 ⟨rfl, ⟨col3, cv3, iv3, ov3, fv3, g3, H3⟩, k3⟩
  clear hP2
  rw [drop_drop HX.out.2.1] at H3
  have Hz3 : Hid (MZ w2 rn hm C I (dropO V 2) M (Gw P (w.drewN m) w2) w3) := ⟨H3.e, k3⟩
  have hlt3 := H3.rlt
  have hQ := vpushMF H3 (drop_fs HX.out.2.1 2) (by have := drop_used HX.out.2.1 2 HX.out.2.2.2.2; have := Hop.out.2.2.2; omega) (by rw [drop_most]; exact HX.out.2.2.2.1) (compI 19 (opn V 1) (opn V 0))
  have HP : Hid (X = pushV (dropO V 2) (compI 19 (opn V 1) (opn V 0))) := HXE.out.trans (push_put HX.out.2.1 2 (by omega) HX.out.2.2.2.2 Hop.out.2.2.2 HX.out.2.2.1 _).symm
  clear H3 k3 hlt2
  rw [show compI 19 (opn V 1) (opn V 0) = flagI (decide (opn V 0 < opn V 1)) from rfl] at hQ HP
  obtain ⟨tb, htb⟩ : ∃ tb : Bool, decide (opn V 0 < opn V 1) = tb := ⟨_, rfl⟩
  rw [htb] at hQ HP
  generalize opn V 1 = a at *
  generalize opn V 0 = b at *
  have t1 : decide (b < a) = tb := by rw [← htb]
  have t2 : decide (a > b) = tb := by rw [← htb]
  clear htb
  have hF := b2iF tb
  generalize flagI tb = fl at *
  go_wp2_with fail
  refine (hF _).mono ?_
  rintro v w3 ⟨rfl, rfl⟩
  go_wp2_with fail
  refine hQ.mono ?_
  rintro v w4 ⟨rfl, h4⟩
  go_wp2_with fail
  go_end0
  have hz : MZ w rn hm C I V M P (w.drewN m) := Hz.out
  have h12 : MZ w rn hm C I (dropO V 1) M P w2 := hz.nx (fun c q => .inl q) Hz2.out
  have h13 : MZ w rn hm C I (dropO V 2) M P w3 := h12.nx (fun c q => q.elim .inl (fun q => .inr ⟨q.1, q.2⟩)) Hz3.out
  rw [HP.out]
  exact ⟨rfl, h13.nx (fun c q => by
    have s3 := Hz3.out.2.size
    have s2 := Hz2.out.2.size
    have s1 := hz.2.size
    rcases q with (q | q) | q
    · exact .inl q
    · exact .inr ⟨q.1, by have := q.2; omega⟩
    · exact .inr ⟨by have := q.1; omega, q.2⟩) h4⟩
set_option maxRecDepth 100000 in
set_option maxHeartbeats 600000 in
theorem bin20 (H : MR w rn hm C I V M col P cv iv ov fv g) (hf : V.fs = f :: r) (h24 : M.rt.length ≤ 24) (hq : f.rb + f.lr ≤ M.rt.length) (hu : usedF V.fs ≤ V.most) (hmo : V.most ≤ 48) (h2 : 2 ≤ f.ops.length) : Calls Tryz.prog 90 #[.pointer (some ⟨rn, 0, none⟩), .int .i64 20] w fun e w' => e = .returned (.tuple #[]) ∧ MZ w rn hm C I (putO V 2 (compI 20 (opn V 1) (opn V 0))) M P w' := by
  obtain ⟨X, hX⟩ : ∃ X, X = putO V 2 (compI 20 (opn V 1) (opn V 0)) := ⟨_, rfl⟩
  rw [← hX]
  have HXE : Hid _ := hX
  clear hX
  have hsum : usedF V.fs = 3 + f.loc.length + f.ops.length + usedF r := by rw [hf]; rfl
  have hrl := lenUsed r
  have hN := need_ok H hf h24 (by omega) (by omega) 2 0 h2 (by omega)
  rw [show ((2 : Nat) : Int) = 2 from rfl, show ((0 : Nat) : Int) = 0 from rfl] at hN
  have HX : Hid _ := And.intro H (And.intro hf (And.intro hu (And.intro hmo h2)))
  have hlt := H.rlt
  have h48 : r.length ≤ 48 ∧ f.ops.length ≤ 48 ∧ usedF V.fs ≤ 48 := by omega
  have hopd := opn_drop hf h2
  have Hop : Hid _ := And.intro hopd h48
  clear H hf hu hmo h2 hsum hrl hopd h48 h24 hq
  go_enter Tryz.func90, Tryz.ntmps90
  go_wp2_with fail
  refine hN.mono ?_
  rintro v w1 ⟨rfl, m, rfl⟩
  clear hN
  have H1 := HX.out.1.same ((Fr.refl (fun _ => False) w).drewN m)
  have hP1 := vpopMF H1 HX.out.2.1 Hop.out.2.1 (by have := HX.out.2.2.2.2; omega) Hop.out.2.2.1
  have hlt1 := H1.rlt
  have kz : MZ w rn hm C I V M P (w.drewN m) := HX.out.1.e.z0 ((Fr.refl (fun _ => False) w).drewN m)
  have Hz : Hid _ := kz
  clear H1 hlt kz
  go_wp2_with fail
  refine hP1.mono ?_
  rintro v w2 ⟨rfl, ⟨col2, cv2, iv2, ov2, fv2, g2, H2⟩, k2⟩
  clear hP1
  have hP2 := vpopMF H2 (drop_fs HX.out.2.1 1) Hop.out.2.1 (by simp only [List.length_take]; have := HX.out.2.2.2.2; omega) (by simp only [List.length_take]; have := Hop.out.2.2.1; omega)
  rw [Hop.out.1] at hP2
  have hlt2 := H2.rlt
  have Hz2 : Hid (MZ (w.drewN m) rn hm C I (dropO V 1) M P w2) := ⟨H2.e, k2⟩
  clear H2 k2 hlt1
  go_wp2_with fail
  refine hP2.mono ?_
  rintro v w3 ⟨rfl, ⟨col3, cv3, iv3, ov3, fv3, g3, H3⟩, k3⟩
  clear hP2
  rw [drop_drop HX.out.2.1] at H3
  have Hz3 : Hid (MZ w2 rn hm C I (dropO V 2) M (Gw P (w.drewN m) w2) w3) := ⟨H3.e, k3⟩
  have hlt3 := H3.rlt
  have hQ := vpushMF H3 (drop_fs HX.out.2.1 2) (by have := drop_used HX.out.2.1 2 HX.out.2.2.2.2; have := Hop.out.2.2.2; omega) (by rw [drop_most]; exact HX.out.2.2.2.1) (compI 20 (opn V 1) (opn V 0))
  have HP : Hid (X = pushV (dropO V 2) (compI 20 (opn V 1) (opn V 0))) := HXE.out.trans (push_put HX.out.2.1 2 (by omega) HX.out.2.2.2.2 Hop.out.2.2.2 HX.out.2.2.1 _).symm
  clear H3 k3 hlt2
  rw [show compI 20 (opn V 1) (opn V 0) = flagI (decide (opn V 0 ≤ opn V 1)) from rfl] at hQ HP
  obtain ⟨tb, htb⟩ : ∃ tb : Bool, decide (opn V 0 ≤ opn V 1) = tb := ⟨_, rfl⟩
  rw [htb] at hQ HP
  generalize opn V 1 = a at *
  generalize opn V 0 = b at *
  have t1 : decide (b ≤ a) = tb := by rw [← htb]
  have t2 : decide (a ≥ b) = tb := by rw [← htb]
  clear htb
  have hF := b2iF tb
  generalize flagI tb = fl at *
  go_wp2_with fail
  refine (hF _).mono ?_
  rintro v w3 ⟨rfl, rfl⟩
  go_wp2_with fail
  refine hQ.mono ?_
  rintro v w4 ⟨rfl, h4⟩
  go_wp2_with fail
  go_end0
  have hz : MZ w rn hm C I V M P (w.drewN m) := Hz.out
  have h12 : MZ w rn hm C I (dropO V 1) M P w2 := hz.nx (fun c q => .inl q) Hz2.out
  have h13 : MZ w rn hm C I (dropO V 2) M P w3 := h12.nx (fun c q => q.elim .inl (fun q => .inr ⟨q.1, q.2⟩)) Hz3.out
  rw [HP.out]
  exact ⟨rfl, h13.nx (fun c q => by
    have s3 := Hz3.out.2.size
    have s2 := Hz2.out.2.size
    have s1 := hz.2.size
    rcases q with (q | q) | q
    · exact .inl q
    · exact .inr ⟨q.1, by have := q.2; omega⟩
    · exact .inr ⟨by have := q.1; omega, q.2⟩) h4⟩
end
end Go.Proofs.Qxb6500281aGreat
