/- The code generator: Check. -/
import Derived.Test.Qxb6500277aGreatGK5
import Derived.Test.Qxb6500277aGreatGE24
namespace Go.Proofs.Qxb6500277aGreat
open Go Go.RowKit

theorem GdB.ck {B : Gb} (h : GdB B) : CkB B ∧ CkT B := by
  rcases h with rfl | ⟨P, m, hP, rfl⟩
  · refine ⟨⟨rfl, by simp, fun i => by simp [byteAt], fun pc hp => by simp at hp, ChA.zero _⟩, ⟨by simp, fun i hi => by simp at hi, .inl rfl, fun k hk => by simp at hk⟩⟩
  · have C := hP.ck
    have hf : P.fns.length ≤ 3000 := by
      have h3 : (codeP P m).length = (P.fns.map nF).sum := codeP_len hP.mn
      have h4 := hP.len
      have h6 : ∀ l : List Fi, l.length ≤ (l.map nF).sum := fun l => by
        induction l with
        | nil => simp
        | cons a l ih =>
          simp only [List.map_cons, List.sum_cons, List.length_cons]
          have : 1 ≤ nF a := by unfold nF; omega
          omega
      have := h6 P.fns
      omega
    refine ⟨⟨rfl, hP.len, hP.by', C.fin, C.end'⟩, ⟨by simp; omega, fun i hi => ?_, .inr ⟨m, by simpa using hP.mn, ?_⟩, fun k hk => ?_⟩⟩
    · simp only [List.length_map, List.length_range] at hi
      refine ⟨enP P m i, by simp [hi], C.en' i hi⟩
    · simp only [List.getElem?_map, List.getElem?_range hP.mn, Option.map_some]
      rw [enP_main]
      rfl
    · refine ⟨(fxL P (ordL P.fns.length m) 0)[k], List.getElem?_eq_getElem hk, ?_⟩
      have hmem := List.getElem_mem hk
      obtain ⟨a1, a2, a3, a4, a5⟩ := C.rw' _ hmem
      have a6 := C.rn _ hmem
      exact ⟨a1, a2, a3, a4, by simpa using a6, by simp only [List.getElem?_map, List.getElem?_range a6, Option.map_some]; rw [a5]⟩
set_option maxRecDepth 100000 in
set_option maxHeartbeats 1000000 in
theorem checkGX {w : World} {g : Nat} {P : Nat → Prop} {hd : Nat → Value} {B : Gb} (h : GX w g P hd B) (hB : GdB B) : Calls Tryz.prog 10 #[.pointer (some ⟨g, 0, none⟩)] w fun e w' => e = .returned (.bool true) ∧ Fr (fun _ => False) w w' := by
  obtain ⟨K, T⟩ := hB.ck
  have q1 := startsK h K
  obtain ⟨cv, hv, xv, ev, col, H⟩ := h
  have c12 : w.cell? ⟨g, 12, none⟩ = some cv := H.cl (o := 12) (by omega)
  have c13 : w.cell? ⟨g, 13, none⟩ = some hv := H.cl (o := 13) (by omega)
  have glt := H.glt
  obtain ⟨ca, cc, hce, _⟩ := H.code.sl
  obtain ⟨ha, hc, hhe, _⟩ := H.hol.sl
  rw [hce] at c12
  rw [hhe, K.ho] at c13
  have hle := K.le
  have HH : Hid (True ∧ _) := ⟨trivial, And.intro H (And.intro K T)⟩
  obtain ⟨n, hn⟩ : ∃ n, n = B.code.length := ⟨_, rfl⟩
  have Hn : Hid (True ∧ _) := ⟨trivial, hn⟩
  rw [← hn] at c12 q1 hle
  have z1 : decide (((n : Nat) : Int) ≥ 65536) = false := decide_eq_false (by omega)
  have z2 : decide ((65536 : Int) ≤ (n : Nat)) = false := decide_eq_false (by omega)
  clear H K T hce hhe hn hB
  go_enter Tryz.func10, Tryz.ntmps10
  go_wp2_with fail
  refine q1.mono ?_
  rintro v w1 ⟨rfl, M1, F1⟩
  obtain ⟨_, H, K, T⟩ := HH.out
  obtain ⟨_, hn⟩ := Hn.out
  have q2 := jumpsK (H.same F1).x K (by rw [← hn]; exact M1)
  rw [← hn] at q2
  have HM : Hid (True ∧ _) := ⟨trivial, And.intro M1 F1⟩
  clear H K T hn M1 F1 q1 c12 c13 glt z1 z2
  go_wp2_with fail
  refine q2.mono ?_
  rintro v w2 ⟨rfl, F2⟩
  obtain ⟨_, H, K, T⟩ := HH.out
  obtain ⟨_, hn⟩ := Hn.out
  obtain ⟨_, M1, F1⟩ := HM.out
  have q3 := tablesK ((H.same F1).same F2).x K T (by rw [← hn]; exact M1.frame F2 fun h => h)
  rw [← hn] at q3
  have HM2 : Hid (True ∧ _) := ⟨trivial, F1.trans F2 fun _ _ h => h⟩
  clear H K T hn M1 F1 q2 F2
  go_wp2_with fail
  refine q3.mono ?_
  rintro v w3 ⟨rfl, F3⟩
  have HM3 : Hid (True ∧ _) := ⟨trivial, HM2.out.2.trans F3 fun _ _ h => h⟩
  clear q3 F3
  go_wp2_with fail
  go_ret
  exact ⟨rfl, HM3.out.2⟩
theorem checkGR {w : World} {g : Nat} {R : Nat → Prop} (H : GReal w g R) : Calls Tryz.prog 10 #[.pointer (some ⟨g, 0, none⟩)] w fun e w' => e = .returned (.bool true) ∧ Fr (fun _ => False) w w' := by
  obtain ⟨c, p, A, P, Op, cv, iv, hd, B, E, _⟩ := H
  exact checkGX E.gx E.gd
end Go.Proofs.Qxb6500277aGreat
