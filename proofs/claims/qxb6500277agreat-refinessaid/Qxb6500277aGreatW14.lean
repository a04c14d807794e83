import Derived.Test.Qxb6500277aGreatApp
namespace Go.Proofs.Qxb6500277aGreat
open Go Go.RowKit

theorem SlAt.sl {w : World} {v : Value} {p : List Tok} (h : SlAt w v p) : ∃ a cap, v = .slice a p.length cap := by
  rcases h with ⟨rfl, rfl⟩ | ⟨b, cap, f, rfl, _⟩
  · exact ⟨none, 0, rfl⟩
  · exact ⟨_, _, rfl⟩
theorem PAt.fresh (w : World) (t : Tok) : PAt (w.alloc (.cells #[.int .i64 t.kind, .int .i64 t.pos, .int .i64 t.val, .string t.text] 182)) w.heap.size [t] := by
  have hb := Blk.new w #[.int .i64 t.kind, .int .i64 t.pos, .int .i64 t.val, .string t.text] 182 (bufF [t]) (fun o ho => by
    simp at ho
    rcases (show o = 0 ∨ o = 1 ∨ o = 2 ∨ o = 3 by omega) with rfl | rfl | rfl | rfl <;> rfl)
  intro o ho
  exact hb.cell (by simpa using ho)
theorem SlAt.alloc {w : World} {v : Value} {p : List Tok} (h : SlAt w v p) (o : Obj) : SlAt (w.alloc o) v p := h.frame ((Fr.refl (fun _ => False) w).alloc o) (fun _ _ _ _ h => h)

theorem SlAt.some {w : World} {v : Value} {p : List Tok} (h : SlAt w v p) (hp : p ≠ []) : ∃ b cap f, v = .slice (some ⟨b, 0, none⟩) p.length cap ∧ p.length ≤ cap ∧ Blk w b (cap * 4) f ∧ ∀ o, o < p.length * 4 → f o = bufF p o := by
  rcases h with ⟨_, h⟩ | h
  · exact absurd h hp
  · exact h
theorem succ_len (n : Nat) : Value.int .i64 ((n : Int) + 1) = .int .i64 ((n + 1 : Nat) : Int) := congrArg _ (by omega)
def resO : Obj := .cells #[.slice none 0 0, .int .i64 0, .int .i64 0] 159
/-- The model's loop at byte i, with the tokens acc so far. -/
structure ML (w wr : World) (src : ByteArray) (i : Nat) (acc : List Tok) (lv : Value) : Prop where
  at_ : At src i acc (finR src 0 r0)
  sl : SlAt wr lv acc
  len : acc.length ≤ i
  fr : Fr (fun _ => False) (w.alloc resO) wr
  base : ∀ b n c, lv = .slice (some ⟨b, 0, none⟩) n c → w.heap.size + 1 ≤ b
theorem ML.push {w wr w4 : World} {src : ByteArray} {i n : Nat} {acc : List Tok} {lv v' : Value} {T : Tok} {o : Obj} (h : ML w wr src i acc lv) (hn : 1 ≤ n) (hat : At src (i + n) (acc ++ [T]) (finR src 0 r0)) (hs : SlAt w4 v' (acc ++ [T]))
    (hb : ∀ b n c, v' = .slice (some ⟨b, 0, none⟩) n c → (wr.alloc o).heap.size ≤ b ∨ ∃ n' c', lv = .slice (some ⟨b, 0, none⟩) n' c')
    (f : Fr (fun b => ∃ n c, lv = .slice (some ⟨b, 0, none⟩) n c) (wr.alloc o) w4) : ML w w4 src (i + n) (acc ++ [T]) v' := by
  have hz : (w.alloc resO).heap.size = w.heap.size + 1 := by simp
  have hz2 : (wr.alloc o).heap.size = wr.heap.size + 1 := by simp
  have hs1 := h.fr.size
  refine ⟨hat, hs, by rw [one_append]; have := h.len; omega, ?_, fun b n c e => ?_⟩
  · refine (h.fr.alloc o).trans f ?_
    rintro b hb' ⟨n, c, e⟩
    have := h.base b n c e
    omega
  · rcases hb b n c e with h1 | ⟨n', c', h1⟩
    · omega
    · exact h.base b n' c' h1
theorem ML.end_facts {w wr w4 w5 w6 : World} {src : ByteArray} {i : Nat} {acc : List Tok} {lv : Value} {o : Obj} (h : ML w wr src i acc lv)
    (f4 : Fr (fun b => ∃ n c, lv = .slice (some ⟨b, 0, none⟩) n c) (wr.alloc o) w4) (f5 : Fr (fun _ => False) w4 w5) (f6 : Fr (fun b => b = w4.heap.size) w5 w6) :
    Fr (fun _ => False) (w.alloc resO) w6 ∧ w6.cell? ⟨w.heap.size, 0, none⟩ = some (.slice none 0 0) ∧ w6.cell? ⟨w.heap.size, 1, none⟩ = some (.int .i64 0) ∧ w6.cell? ⟨w.heap.size, 2, none⟩ = some (.int .i64 0) ∧ ∀ o, w6.frozen? ⟨w.heap.size, o, none⟩ = false := by
  have hz : (w.alloc resO).heap.size = w.heap.size + 1 := by simp
  have hs1 := h.fr.size
  have hs2 := f4.size
  have hz2 : (wr.alloc o).heap.size = wr.heap.size + 1 := by simp
  have g4 : Fr (fun _ => False) (w.alloc resO) w4 := (h.fr.alloc o).trans f4 (by
    rintro b hb' ⟨n, c, e⟩
    have := h.base b n c e
    omega)
  have g6 : Fr (fun _ => False) (w.alloc resO) w6 := (g4.trans f5 (fun _ _ h => h)).trans f6 (fun b hb e => by omega)
  have hq := fun o => g6.newCell (by simp) o
  exact ⟨g6, hq 0, hq 1, hq 2, fun o => g6.newFrozen (by simp) o⟩
def MPost (w : World) (src : ByteArray) : Ending → World → Prop := fun e w' =>
  Fr (fun _ => False) w w' ∧ (((finR src 0 r0).fail ≠ 0 ∧ e = .returned (toksV (.slice none 0 0) (finR src 0 r0).fail (finR src 0 r0).start)) ∨
    ((finR src 0 r0).fail = 0 ∧ ∃ b, e = .returned (toksV (.slice (some ⟨b, 0, none⟩) ((finR src 0 r0).toks.length + 1) ((finR src 0 r0).toks.length + 1)) 0 0) ∧ TokAt w' b ((finR src 0 r0).toks ++ [eofT src.size]) ∧ w.heap.size ≤ b))
theorem ML.failed {w wr w6 : World} {src : ByteArray} {i k : Nat} {acc : List Tok} {lv : Value} (h : ML w wr src i acc lv) (hk : k ≠ 0) (h1 : (finR src 0 r0).fail = k) (h2 : (finR src 0 r0).start = i) (f : Fr (fun c => c = w.heap.size) wr w6) :
    MPost w src (.returned (toksV (.slice none 0 0) k i)) w6 := by
  refine ⟨((((Fr.refl (fun _ => False) w).alloc resO).trans h.fr (fun _ _ h => h)).mono (S' := fun c => c = w.heap.size) (fun _ _ h => h.elim) |>.trans f (fun _ _ h => h)).mono (fun b hb e => by omega), .inl ⟨by omega, by rw [h1, h2]⟩⟩

set_option maxRecDepth 100000 in
set_option maxHeartbeats 4000000 in
theorem mlex_long (v0 : Value) {w : World} (src : ByteArray) (hsz : ¬ src.size ≤ 4096) :
    Calls Tryz.prog 73 #[v0, .string src] w fun e w' => e = .returned (toksV (.slice none 0 0) 31 4096) ∧ Fr (fun _ => False) w w' := by
  have t1 : decide ((4096 : Int) < (src.size : Int)) = true := by simp; omega
  clear hsz
  go_enter Tryz.func73, Tryz.ntmps73
  go_wp2_with fail
  refine bodyPost_ret (v := toksV (.slice none 0 0) 31 4096) (by simp [results, Tryz.results73, go_sem, toksV]) rfl ⟨rfl, ?_⟩
  exact (Fr.refl _ _).alloc _

set_option maxRecDepth 100000 in
set_option maxHeartbeats 8000000 in
theorem mlex_any (v0 : Value) {w : World} (src : ByteArray) (hsz : src.size ≤ 4096) : Calls Tryz.prog 73 #[v0, .string src] w (MPost w src) := by
  go_enter Tryz.func73, Tryz.ntmps73
  go_wp2_with fail
  go_loopg [5, 6] src.size (fun g lv iv wr => ∃ (i : Nat) (acc : List Tok), iv = .int .i64 i ∧ i + g = src.size ∧ ML w wr src i acc lv)
  case atStart => exact ⟨0, [], rfl, by omega, at_start src, .inl ⟨rfl, rfl⟩, by simp, Fr.refl _ _, fun b n c e => by cases e⟩
  case round =>
    obtain ⟨i, acc, rfl, hg, hM⟩ := hrel
    have hg' : i + gk = src.size := hg
    obtain ⟨la, lc, rfl⟩ := hM.sl.sl
    have hal := hM.len
    have hq := fun o => hM.fr.newCell (by simp) o
    have q0 : wr.cell? ⟨w.heap.size, 0, none⟩ = some (.slice none 0 0) := hq 0
    have q1 : wr.cell? ⟨w.heap.size, 1, none⟩ = some (.int .i64 0) := hq 1
    have q2 : wr.cell? ⟨w.heap.size, 2, none⟩ = some (.int .i64 0) := hq 2
    have qz := fun o => hM.fr.newFrozen (by simp) o
    have hws := hM.fr.size
    clear hq hg
    by_cases hlt : i < src.size
    · go_wp2_with fail
      refine (blank_any src i hlt hsz _).mono ?_
      rintro e w2 ⟨⟨n, rfl, hB⟩, rfl⟩
      by_cases hn : n = 0
      · subst hn
        have hcl : classN (bt src i) ≠ 3 ∧ bt src i ≠ 35 := by
          rcases hB with ⟨_, h2⟩ | ⟨h1, h2⟩ | ⟨h1, h2, _⟩
          · omega
          · exfalso
            rcases h2.stop with e | e
            · omega
            · rw [Nat.add_zero, h1] at e; simp [noteB] at e
          · exact ⟨h1, h2⟩
        clear hB
        go_wp2_with fail
        refine (mword_any src i hlt hsz _).mono ?_
        rintro e w2 ⟨⟨n, rfl, hW⟩, rfl⟩
        rcases hW with ⟨hl, rfl⟩ | ⟨hl, hr⟩
        · go_wp2_with fail
          refine (number_any src i hlt hsz _).mono ?_
          rintro e w2 ⟨⟨n, rfl, hr⟩, rfl⟩
          by_cases hn : n = 0
          · subst hn
            have hd : digitB (bt src i) = false := by
              rcases hr.stop with e | e
              · omega
              · simpa using e
            clear hr
            go_wp2_with fail
            refine (fixed_any src i 17 39 (by omega) (by omega) (by omega) hlt hsz _).mono ?_
            rintro e w2 ⟨⟨kind, n, rfl, hf⟩, rfl⟩
            have hsg := at_sign hM.at_ hlt hf (by rw [Ne, cls_letter, hl]; simp) (by rw [Ne, cls_digit, hd]; simp) hcl.1 hcl.2
            clear hf hl hd hcl
            rcases hsg with ⟨rfl, hfl⟩ | ⟨hn, hle, hat⟩
            · go_wp2_with fail
              refine bodyPost_ret (v := toksV (.slice none 0 0) 7 i) (by simp [results, Tryz.results73, go_sem, toksV, q0, q1, q2]) rfl ?_
              refine hM.failed (k := 7) (by omega) hfl.1 hfl.2 ?_
              iterate 3 refine Fr.setC ?_ _ _ _ (fun _ => rfl)
              exact Fr.refl _ _
            · have t1 : ((n : Int) == 0) = false := by simp; omega
              go_wp2_with (at_builtin; refine wpList_appendTok (by rfl) _ _ (by rfl) (.slice la acc.length lc) acc ⟨kind, i, 0, ⟨#[]⟩⟩ w2.heap.size 1 (by rfl) (by rfl) (hM.sl.alloc _) (PAt.fresh w2 ⟨kind, i, 0, ⟨#[]⟩⟩) (by omega) ?_; intro v' w4 hc4 hb4 f4; obtain ⟨va, vcap, rfl⟩ := hc4.sl)
              go_roundg (gk - n)
              case measure => omega
              case rel =>
                simp only [one_append] at hc4 hb4
                exact ⟨i + n, _, by simp, by omega, hM.push (by omega) hat hc4 hb4 f4⟩
          · have hle := hr.le
            have hn1 : 1 ≤ n := by omega
            have hez : (src.extract i (i + n)).size = n := by rw [size_ex _ _ _ hle]; omega
            have t1 : decide ((0 : Int) < (n : Int)) = true := by simp; omega
            have t3 : (0 : Int) ≤ (i : Int) + n := by omega
            have t4 : (i : Int) + n ≤ src.size := by omega
            have t5 : (i : Int) ≤ (i : Int) + n := by omega
            have Hez : Hid _ := hez
            clear hez
            go_wp2_with fail
            refine (value_any (src.extract i (i + n)) (by rw [Hez.out]; omega) (fun j hj => by rw [Hez.out] at hj; rw [ex_bt src i n hle j hj]; exact hr.all _ (by omega) (by omega)) _).mono ?_
            rw [Hez.out]
            rintro e w2 ⟨⟨hv, rfl⟩ | ⟨hv, rfl⟩, rfl⟩
            · have hat := at_num hM.at_ hr hn1 hv
              obtain ⟨V, hV⟩ : ∃ V, V = decV (src.extract i (i + n)) n := ⟨_, rfl⟩
              rw [← hV] at hat ⊢
              have Hr : Hid _ := hr
              clear hv hV hr
              go_wp2_with (at_builtin; refine wpList_appendTok (by rfl) _ _ (by rfl) (.slice la acc.length lc) acc ⟨2, i, V, ⟨#[]⟩⟩ w2.heap.size 1 (by rfl) (by rfl) (hM.sl.alloc _) (PAt.fresh w2 ⟨2, i, V, ⟨#[]⟩⟩) (by omega) ?_; intro v' w4 hc4 hb4 f4; obtain ⟨va, vcap, rfl⟩ := hc4.sl)
              go_roundg (gk - n)
              case measure => omega
              case rel =>
                simp only [one_append] at hc4 hb4
                exact ⟨i + n, _, by simp, by omega, hM.push (by omega) hat hc4 hb4 f4⟩
            · have hfl := num_big hM.at_ hr hn1 hv
              clear hv hr
              go_wp2_with fail
              refine bodyPost_ret (v := toksV (.slice none 0 0) 8 i) (by simp [results, Tryz.results73, go_sem, toksV, q0, q1, q2]) rfl ?_
              refine hM.failed (k := 8) (by omega) hfl.1 hfl.2 ?_
              iterate 3 refine Fr.setC ?_ _ _ _ (fun _ => rfl)
              exact Fr.refl _ _
        · have hle := hr.le
          have hn1 : 1 ≤ n := by
            rcases Nat.eq_zero_or_pos n with e | e
            · subst e
              rcases hr.stop with e | e
              · omega
              · rw [Nat.add_zero, alnumB, hl] at e; cases e
            · exact e
          have t1 : decide ((0 : Int) < (n : Int)) = true := by simp; omega
          by_cases h8 : n ≤ 8
          · have t2 : decide ((8 : Int) < (n : Int)) = false := by simp; omega
            have hat := at_word hM.at_ hlt hl hr h8
            go_wp2_with fail
            refine (fixed_any src i 3 16 (by omega) (by omega) (by omega) hlt hsz _).mono ?_
            rintro e w2 ⟨⟨kind, kn, rfl, hf⟩, rfl⟩
            obtain ⟨w1, w2'⟩ := fix_word hf hr hn1
            have Hr : Hid _ := hr
            clear hf hr hl hcl
            by_cases hk : kn = n
            · rw [w1 hk] at hat
              subst hk
              clear w1 w2'
              go_wp2_with (at_builtin; refine wpList_appendTok (by rfl) _ _ (by rfl) (.slice la acc.length lc) acc ⟨kind, i, 0, ⟨#[]⟩⟩ w2.heap.size 1 (by rfl) (by rfl) (hM.sl.alloc _) (PAt.fresh w2 ⟨kind, i, 0, ⟨#[]⟩⟩) (by omega) ?_; intro v' w4 hc4 hb4 f4; obtain ⟨va, vcap, rfl⟩ := hc4.sl)
              go_roundg (gk - kn)
              case measure => omega
              case rel =>
                simp only [one_append] at hc4 hb4
                exact ⟨i + kn, _, by simp, by omega, hM.push (by omega) hat hc4 hb4 f4⟩
            · rw [w2' hk] at hat
              have t5 : ((kn : Int) == (n : Int)) = false := by simp; omega
              have t3 : (0 : Int) ≤ (i : Int) + n := by omega
              have t4 : (i : Int) + n ≤ src.size := by omega
              have t6 : (i : Int) ≤ (i : Int) + n := by omega
              clear w1 w2' hk
              go_wp2_with (at_builtin; refine wpList_appendTok (by rfl) _ _ (by rfl) (.slice la acc.length lc) acc ⟨1, i, 0, src.extract i (i + n)⟩ w2.heap.size 1 (by rfl) (by rfl) (hM.sl.alloc _) (PAt.fresh w2 ⟨1, i, 0, src.extract i (i + n)⟩) (by omega) ?_; intro v' w4 hc4 hb4 f4; obtain ⟨va, vcap, rfl⟩ := hc4.sl)
              go_roundg (gk - n)
              case measure => omega
              case rel =>
                simp only [one_append] at hc4 hb4
                exact ⟨i + n, _, by simp, by omega, hM.push (by omega) hat hc4 hb4 f4⟩
          · have t2 : decide ((8 : Int) < (n : Int)) = true := by simp; omega
            have hfl := word_long hM.at_ hlt hl hr (by omega)
            clear hr hl hcl
            go_wp2_with fail
            refine bodyPost_ret (v := toksV (.slice none 0 0) 9 i) (by simp [results, Tryz.results73, go_sem, toksV, q0, q1, q2]) rfl ?_
            refine hM.failed (k := 9) (by omega) hfl.1 hfl.2 ?_
            iterate 3 refine Fr.setC ?_ _ _ _ (fun _ => rfl)
            exact Fr.refl _ _
      · have hres : At src (i + n) acc (finR src 0 r0) ∧ i + n ≤ src.size := by
          rcases hB with ⟨h1, h2⟩ | ⟨h1, h2⟩ | ⟨_, _, h1⟩
          · subst h2; exact ⟨at_space hM.at_ hlt h1, by omega⟩
          · exact ⟨at_note hM.at_ hlt h1 h2, h2.le⟩
          · exact absurd h1 hn
        obtain ⟨hat, hle⟩ := hres
        have t1 : decide ((0 : Int) < (n : Int)) = true := by simp; omega
        clear hB
        go_wp2_with fail
        go_roundg (gk - n)
        case measure => omega
        case rel => exact ⟨i + n, acc, by simp, by omega, hat, hM.sl, by omega, hM.fr, hM.base⟩
    · have hie : i = src.size := by omega
      subst hie
      obtain ⟨g1, g2⟩ := at_end hM.at_
      clear hlt hg'
      go_wp2_with (first
        | (at_builtin; refine wpList_appendTok (by rfl) _ _ (by rfl) (.slice la acc.length lc) acc (eofT src.size) wr.heap.size 1 (by rfl) (by rfl) (hM.sl.alloc _) (PAt.fresh wr (eofT src.size)) (by omega) ?_
           intro v' w4 hc4 hb4 f4
           obtain ⟨vb, vcap, ff, rfl, hcap, hbk, hff⟩ := hc4.some (by simp)
           have hbk4 := hb4 vb _ _ rfl
           rw [one_append] at hcap hff ⊢)
        | (refine wpList_makeB (by rfl) 97 _ _ (by rfl) 182 4 40 (.agg #[.int .i64 0, .int .i64 0, .int .i64 0, .string ⟨#[]⟩]) (acc.length + 1) (by exact succ_len _) (by exact succ_len _) Tryz.underlying97 (by kernel_rfl) (by kernel_rfl) (by kernel_rfl) (by omega) (by omega) ?_
           intro w5 f5 s5 hb5
           have hbk5 := hbk.frame f5 (by simp))
        | (refine wpList_copyA (by rfl) _ _ 97 97 (by rfl) 182 4 w4.heap.size 0 (acc.length + 1) (acc.length + 1) vb 0 (acc.length + 1) vcap ((acc.length + 1) * 4) (vcap * 4) (acc.length + 1) _ ff (by rfl) (by rfl) Tryz.underlying97 (by kernel_rfl) (by show _ = min _ _; omega) hb5 hbk5 (by omega) (by omega) (fun j hj => by rw [hff _ (by omega)]; exact bufF_one _ _) ?_
           intro w6 f6 hb6
           obtain ⟨fr6, q0, q1, q2, qz⟩ := hM.end_facts f4 f5 f6))
      refine bodyPost_ret (v := toksV (.slice (some ⟨w4.heap.size, 0, none⟩) (acc.length + 1) (acc.length + 1)) 0 0) (by simp [results, Tryz.results73, go_sem, toksV, q0, q1, q2]) rfl ?_
      have hz : (w.alloc resO).heap.size = w.heap.size + 1 := by simp
      have hz2 := f4.size
      have hz3 := (Fr.refl (fun _ => False) wr).alloc (.cells #[.int .i64 0, .int .i64 src.size, .int .i64 0, .string ⟨#[]⟩] 182) |>.size
      have k6 : Fr (fun c => c = w.heap.size) w6 (((w6.setCell ⟨w.heap.size, 0, none⟩ (.slice (some ⟨w4.heap.size, 0, none⟩) (acc.length + 1) (acc.length + 1))).setCell ⟨w.heap.size, 1, none⟩ (.int .i64 0)).setCell ⟨w.heap.size, 2, none⟩ (.int .i64 0)) := by
        iterate 3 refine Fr.setC ?_ _ _ _ (fun _ => rfl)
        exact Fr.refl _ _
      refine ⟨(((((Fr.refl (fun _ => False) w).alloc resO).trans fr6 (fun _ _ h => h)).mono (S' := fun c => c = w.heap.size) (fun _ _ h => h.elim)).trans k6 (fun _ _ h => h)).mono (fun b hb e => by omega), .inr ⟨g1, w4.heap.size, by rw [g2], ?_, by omega⟩⟩
      rw [g2]
      refine Blk.frame ?_ k6 (show ¬ (w4.heap.size = w.heap.size) by omega)
      rw [one_append]
      refine hb6.congr fun o ho => ?_
      rw [lay_in _ _ _ _ (Nat.zero_le _) (by rw [rowOf_length]; omega)]
      simp only [rowOf, Nat.zero_add, Nat.sub_zero, List.getElem_map, List.getElem_range]
      exact hff o ho
end Go.Proofs.Qxb6500277aGreat
