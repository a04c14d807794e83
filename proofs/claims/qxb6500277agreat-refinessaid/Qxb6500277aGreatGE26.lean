/- The real engine: Run whole; Compile; New. -/
import Derived.Test.Qxb6500277aGreatGE25
namespace Go.Proofs.Qxb6500277aGreat
open Go Go.RowKit

section
variable {w : World} {g : Nat} {R : Nat → Prop} {src : ByteArray} {I : List Int} {fuel : Int} {yv : Value}
theorem runG (H : GReal w g R) (hy : KiAt w yv I) (hyd : ∀ b, isB yv b → ¬ R b) (hf : fuel ≤ 9223372036854775807) : Calls Tryz.prog 30 #[.pointer (some ⟨g, 0, none⟩), .string src, yv, .int .i64 fuel] w (GRunR w g R src I fuel) := by
  by_cases hs : 4096 < src.size
  · exact runG_long H hs
  by_cases hI : 128 < I.length
  · exact runG_inp H hy (by omega) hI
  · exact runG_go H hy hyd (by omega) (by omega) hf
/-- What Compile answers. -/
def GComR (w : World) (g : Nat) (R : Nat → Prop) (src : ByteArray) (e : Ending) (w' : World) : Prop := ∃ R', GReal w' g R' ∧ (∀ b, R' b → R b ∨ w.heap.size ≤ b) ∧ Fr R w w' ∧
  ((∃ er po, e = .returned (.tuple #[nilS, .int .i64 er, .int .i64 po]) ∧ GBad src er po) ∨ ∃ X s m v b, e = .returned (.tuple #[v, .int .i64 0, .int .i64 0]) ∧ GOk src X s m ∧ BFr w' b v (cdS src X s m []) ∧ w.heap.size ≤ b ∧ ¬ R' b)
set_option maxRecDepth 100000 in
set_option maxHeartbeats 4000000 in
theorem compG (H : GReal w g R) : Calls Tryz.prog 33 #[.pointer (some ⟨g, 0, none⟩), .string src] w (GComR w g R src) := by
  obtain ⟨c, p, A, P, Op, cv, iv, hd, B, E, hR, hRl⟩ := H
  have q := checkC E.ri E.ci E.oc src
  have hgl : g < w.heap.size := by obtain ⟨_, _, _, _, _, Y⟩ := E.gx; exact Y.glt
  have c0 : w.cell? ⟨g, 0, none⟩ = some (.pointer (some ⟨c, 0, none⟩)) := by
    obtain ⟨_, _, _, _, _, Y⟩ := E.gx
    have := Y.cl (o := 0) (by omega)
    rw [this, ← E.h0]
    rfl
  have HH : Hid (True ∧ _) := ⟨trivial, And.intro E (And.intro hR hRl)⟩
  clear E hR hRl
  go_enter Tryz.func33, Tryz.ntmps33
  go_wp2_with fail
  refine q.mono ?_
  rintro v w1 ⟨Op', v, t, r, f, ns, root, ty, rf, rs, main, err, pos, rfl, R1, o1, C1, oc1, F1, AM, fb, K1⟩
  clear q c0 hgl
  obtain ⟨va, vk, rfl⟩ := nlv_sl AM.hv
  obtain ⟨ta, tk, rfl⟩ := ilv_sl AM.ht
  obtain ⟨ra, rk, rfl⟩ := ilv_sl AM.hr
  obtain ⟨fa, fk, rfl⟩ := flv_sl AM.hf
  unfold chkV
  obtain ⟨_, E, hR, hRl⟩ := HH.out
  have hoc : ∀ b, (b = c ∨ Op b) → R b := fun b hb => hR b (hb.elim (fun h => .inr (.inr (.inl h))) fun h => .inr (.inl h))
  have F01 : Fr R w w1 := F1.mono fun b _ h => hoc b h
  have hl0 : ∀ b, GAll c A P Op cv iv b → b < w.heap.size := fun b hb => hRl b (hR b hb)
  have E1 := E.chk hl0 R1 o1 C1 oc1 F1
  have sz1 := F1.size
  have hl1 : ∀ b, GAll c A P Op' cv iv b → b < w1.heap.size ∧ (R b ∨ w.heap.size ≤ b) := fun b hb => by
    rcases hb with h | h | h | h
    · exact ⟨by have := hl0 b (.inl h); omega, .inl (hR b (.inl h))⟩
    · refine ⟨?_, (o1 b h).imp (fun h => hR b (.inr (.inl h))) id⟩
      obtain ⟨_, _, _, _, hr⟩ := R1
      exact hr.lt b h
    · exact ⟨by have := hl0 b (.inr (.inr (.inl h))); omega, .inl (hR b (.inr (.inr (.inl h))))⟩
    · exact ⟨by have := hl0 b (.inr (.inr (.inr h))); omega, .inl (hR b (.inr (.inr (.inr h))))⟩
  by_cases he : err = 0
  · subst he
    obtain ⟨X, s, m, hA, hK, rfl, rfl, rfl, rfl, rfl, rfl, rfl⟩ := K1.ok
    have hOk : GOk src X s m := ⟨hA, hK⟩
    obtain ⟨root, hroot⟩ : ∃ x, x = hdF 0 (treeOf src) := ⟨_, rfl⟩
    obtain ⟨vn, hvn⟩ : ∃ x, x = (flFs 0 (treeOf src)).length := ⟨_, rfl⟩
    obtain ⟨tn, htn⟩ : ∃ x, x = s.ty.length := ⟨_, rfl⟩
    obtain ⟨rn, hrn⟩ : ∃ x, x = s.rf.length := ⟨_, rfl⟩
    obtain ⟨fn, hfn⟩ : ∃ x, x = (X.fs.zip s.lim).length := ⟨_, rfl⟩
    rw [← hroot, ← hvn, ← htn, ← hrn, ← hfn]
    rw [← hvn, ← htn, ← hrn, ← hfn] at AM fb
    clear hvn htn hrn hfn
    have kb := (Fr.refl (fun _ => False) w1).alloc (.cells #[.slice va vn vk, .int .i64 root, .int .i64 0, .int .i64 0, .slice ta tn tk, .slice ra rn rk, .slice fa fn fk, .int .i64 (m : Nat), .int .i64 0, .int .i64 0] 69)
    have hln := cd_len hOk []
    have E2 := E1.frame kb fun _ _ => id
    have AM2 := AM.frame kb fun _ _ => id
    have q2 := E2.comp (root := root) (fun b hb => Nat.lt_of_lt_of_le (hl1 b hb).1 kb.size) hOk AM2 (fun b hb => ⟨Nat.lt_of_lt_of_le (AM.lt hb) kb.size, fun h => by
      have := (fb b hb).1
      have := hl0 b (.inl h)
      omega⟩) []
    have HX : Hid (True ∧ _) := ⟨trivial, And.intro hl1 (And.intro F01 (And.intro hOk (And.intro kb (And.intro hln hR))))⟩
    clear hl1 F01 hOk kb hln hRl hR hA hK hroot E2 AM2 AM fb E1 R1 o1 C1 oc1 F1 hoc sz1 hl0 E HH K1
    unfold chkV at q2
    go_wp2_with fail
    refine q2.mono ?_
    rintro e w3 ⟨rfl, ⟨hd', B', eB, E3⟩, F3⟩
    clear q2
    obtain ⟨_, hl1, F01, hOk, kb, hln, hR⟩ := HX.out
    obtain ⟨w2, hw2⟩ : ∃ w2, w2 = w1.alloc (.cells #[.slice va vn vk, .int .i64 root, .int .i64 0, .int .i64 0, .slice ta tn tk, .slice ra rn rk, .slice fa fn fk, .int .i64 (m : Nat), .int .i64 0, .int .i64 0] 69) := ⟨_, rfl⟩
    rw [← hw2] at kb E3 F3
    clear hw2 HX
    have s1 := F01.size
    have s2 := kb.size
    have s3 := F3.size
    have hPR : ∀ b, P b → R b := fun b hb => hR b (.inl hb)
    have F03 : Fr R w w3 := (F01.trans kb fun _ _ h => h.elim).trans F3 fun b _ h => hPR b h
    have hl3 : ∀ b, GAll c A (Gw P w2 w3) Op' cv iv b → b < w3.heap.size ∧ (R b ∨ w.heap.size ≤ b) := fun b hb => by
      rcases hb with (h | h) | h | h | h
      · exact ⟨by have := (hl1 b (.inl h)).1; omega, (hl1 b (.inl h)).2⟩
      · exact ⟨h.2, .inr (by have := h.1; omega)⟩
      · exact ⟨by have := (hl1 b (.inr (.inl h))).1; omega, (hl1 b (.inr (.inl h))).2⟩
      · exact ⟨by have := (hl1 b (.inr (.inr (.inl h)))).1; omega, (hl1 b (.inr (.inr (.inl h)))).2⟩
      · exact ⟨by have := (hl1 b (.inr (.inr (.inr h)))).1; omega, (hl1 b (.inr (.inr (.inr h)))).2⟩
    have q3 := imageG E3.gx (by rw [eB]; omega) (by rw [eB]; omega)
    rw [eB] at q3
    have HX : Hid (True ∧ _) := ⟨trivial, And.intro hl3 (And.intro F03 (And.intro hOk (And.intro E3 s1)))⟩
    clear hl1 F01 hOk kb hln hR E3 F3 s2 hPR F03 hl3 eB
    go_wp2_with fail
    refine q3.mono ?_
    rintro e w4 ⟨xv, rfl, hBF, F4⟩
    have HB : Hid (True ∧ _) := ⟨trivial, And.intro hBF (And.intro F4 s3)⟩
    clear q3 hBF F4 s3
    go_wp2_with fail
    first | go_ret3 | ((try simp only [Exit.inBlock, Exit.then]); refine bodyPost_ret (v := .tuple #[xv, .int .i64 0, .int .i64 0]) (by simp [results, Tryz.results33, go_sem]) rfl ?_)
    obtain ⟨_, hl3, F03, hOk, E3, s1⟩ := HX.out
    obtain ⟨_, hBF, F4, s3⟩ := HB.out
    refine ⟨GAll c A (Gw P w2 w3) Op' cv iv, ⟨c, p, A, _, Op', cv, iv, hd', B', E3.frame F4 fun _ _ => id, fun _ => id, fun b hb => Nat.lt_of_lt_of_le (hl3 b hb).1 F4.size⟩, fun b hb => (hl3 b hb).2, F03.trans F4 fun _ _ h => h.elim, .inr ⟨X, s, m, xv, w3.heap.size, rfl, hOk, hBF, F03.size, fun h => by have := (hl3 _ h).1; omega⟩⟩
  · have y1 : (err != 0) = true := by simpa using he
    have F2 := (Fr.refl (fun _ => False) w1).alloc (.cells #[.slice va ns.length vk, .int .i64 root, .int .i64 0, .int .i64 0, .slice ta ty.length tk, .slice ra rf.length rk, .slice fa rs.length fk, .int .i64 main, .int .i64 err, .int .i64 pos] 69)
    have HF : Hid (True ∧ _) := ⟨trivial, And.intro F2 (And.intro E1 (And.intro hl1 (And.intro F01 (And.intro K1 he))))⟩
    clear F2 E1 hl1 F01 K1 he R1 o1 C1 oc1 F1 AM fb hoc sz1 hl0 E hR hRl HH
    go_wp2_with fail
    go_quiet (fail)
    go_wp2_with fail
    first | go_ret3 | ((try simp only [Exit.inBlock, Exit.then]); refine bodyPost_ret (v := .tuple #[nilS, .int .i64 err, .int .i64 pos]) (by simp [results, Tryz.results33, go_sem]) rfl ?_)
    obtain ⟨_, F2, E1, hl1, F01, K1, he⟩ := HF.out
    have F3 := F2.trans ((Fr.refl (fun _ => False) _).drewN nq) fun _ _ h => h
    refine ⟨GAll c A P Op' cv iv, ⟨c, p, A, P, Op', cv, iv, hd, B, E1.frame F3 fun _ _ => id, fun _ => id, fun b hb => Nat.lt_of_lt_of_le (hl1 b hb).1 F3.size⟩, fun b hb => (hl1 b hb).2, F01.trans F3 fun _ _ h => h.elim, .inl ⟨err, pos, rfl, ⟨_, _, _, _, _, _, K1, he⟩⟩⟩
end
end Go.Proofs.Qxb6500277aGreat
