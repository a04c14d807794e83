/- The law's own lists: Spoil, Untouched, Keep. -/
import Derived.Test.Qxb6500280aPL1
namespace Go.Proofs.Qxb6500280a
open Go Go.RowKit

theorem nil_noB (b : Nat) : ¬ isBlk (.slice none 0 0) b := fun h => isBlk_nil h
theorem NdP.rep {f : Nat → Value} {k : Nat} (h : NdP f (List.replicate k stNd)) : NdP (upd8 f k stNd) (List.replicate (k + 1) stNd) := by
  have := h.push stNd
  rw [List.length_replicate] at this
  rw [List.replicate_succ']
  exact this
set_option maxRecDepth 100000 in
set_option maxHeartbeats 4000000 in
theorem spoilF {w : World} {v : Value} {ns : List Nd} (h : NLV w v ns) (hl : ns.length ≤ 200) : Calls Try.prog 22 #[v] w fun e w' => e = .returned (.tuple #[]) ∧ NLV w' v (List.replicate ns.length stNd) ∧ Fr (isBlk v) w w' := by
  rcases h with ⟨rfl, rfl⟩ | ⟨b, f, rfl, hb, hp, h0⟩
  · go_enter Try.func22, Try.ntmps22
    go_wp2_with fail
    refine wp_loop_rounds 1 ?_
    rw [rounds_succ]
    go_wp2_with fail
    go_end0
    exact ⟨rfl, .inl ⟨rfl, rfl⟩, Fr.refl _ _⟩
  · go_enter Try.func22, Try.ntmps22
    go_wp2_with fail
    go_loopg [2] ns.length (fun gk kv wr => ∃ (k : Nat) (f : Nat → Value), kv = .int .i64 k ∧ k + gk = ns.length ∧ Fr (fun c => c = b) w wr ∧ Blk wr b (ns.length * 8) f ∧ NdP f (List.replicate k stNd))
    case atStart => exact ⟨0, f, rfl, by omega, Fr.refl _ _, hb, fun j hj => by simp at hj⟩
    case round =>
      clear hb hp
      obtain ⟨k, f2, rfl, hkg, FJ, hb, hp⟩ := hrel
      have Hkg : Hid _ := hkg
      have bl := hb.lt
      by_cases hk : k < ns.length
      · have z1 : decide ((k : Int) < (ns.length : Int)) = true := decide_eq_true (by omega)
        have z2 : decide (k < ns.length) = true := decide_eq_true hk
        have hk2 : k < 200 := by omega
        clear hkg
        go_wp2_with fail
        refine (stampF wr).mono ?_
        rintro v w2 ⟨rfl, f3⟩
        have hb2 := hb.frame f3 (fun h => h)
        obtain ⟨o0, o1, o2, o3, o4, o5, o6, o7⟩ := hb2.any8 (k := k) (by omega)
        have hz := hb2.frozen
        have bl2 := hb2.lt
        have Hset : Hid _ := set8_blk (m := k) hb2 stNd
        have Hfr : Hid _ := (FJ.trans f3 (fun _ _ h => h.elim)).trans (set8_fr (w := w2) (S := fun c => c = b) (b := b) (m := k) stNd (fun _ => rfl)) (fun _ _ h => h)
        have Hp : Hid _ := hp.rep
        clear hp FJ hb hb2
        unfold ndV
        go_wp2_with fail
        go_roundg (gk - 1)
        case measure => have := Hkg.out; omega
        case rel => exact ⟨k + 1, _, by simp, by have := Hkg.out; omega, Hfr.out, Hset.out, Hp.out⟩
      · have z1 : decide ((k : Int) < (ns.length : Int)) = false := decide_eq_false (by omega)
        have z2 : decide (k < ns.length) = false := decide_eq_false hk
        have Hk : Hid (k = ns.length) := by show k = ns.length; omega
        clear hkg hk
        go_wp2_with fail
        go_end0
        rw [Hk.out] at hp
        exact ⟨rfl, .inr ⟨b, f2, by simp, by simpa using hb, hp, by simpa using h0⟩, FJ.mono (fun c _ h => h ▸ ⟨_, _, rfl⟩)⟩
/-- A list that bears the stamp. -/
def Stp (w : World) (v : Value) : Prop := ∃ n, n ≤ 200 ∧ NLV w v (List.replicate n stNd)
/-- The lists' list. -/
def OS (w : World) (v : Value) (n : Nat) (f : Nat → Value) : Prop := (v = .slice none 0 0 ∧ n = 0) ∨ ∃ b cap, v = .slice (some ⟨b, 0, none⟩) n cap ∧ n ≤ cap ∧ Blk w b cap f
theorem OS.sl {w : World} {v : Value} {n : Nat} {f : Nat → Value} (h : OS w v n f) : ∃ a c, v = .slice a n c := by
  rcases h with ⟨rfl, rfl⟩ | ⟨b, cap, rfl, _⟩
  · exact ⟨_, _, rfl⟩
  · exact ⟨_, _, rfl⟩
theorem OS.bk {w : World} {v : Value} {n b : Nat} {f : Nat → Value} (h : OS w v n f) (hb : isBlk v b) : b < w.heap.size := by
  rcases h with ⟨rfl, rfl⟩ | ⟨b', cap, rfl, _, hB⟩
  · exact absurd hb (nil_noB b)
  · rw [isBlk_one hb]; exact hB.lt
theorem OS.frame {S : Nat → Prop} {w w' : World} {v : Value} {n : Nat} {f : Nat → Value} (h : OS w v n f) (k : Fr S w w') (hb : ∀ b, isBlk v b → ¬ S b) : OS w' v n f := by
  rcases h with h | ⟨b, cap, rfl, h1, h2⟩
  · exact .inl h
  · exact .inr ⟨b, cap, rfl, h1, h2.frame k (hb b ⟨_, _, rfl⟩)⟩
structure MnA (w : World) (mv : Value) (n : Nat) (f : Nat → Value) : Prop where
  le : n ≤ 16
  os : OS w mv n f
  st : ∀ j, j < n → Stp w (f j)
theorem Stp.frame {S : Nat → Prop} {w w' : World} {v : Value} (h : Stp w v) (k : Fr S w w') (hb : ∀ b, isBlk v b → ¬ S b) : Stp w' v := by
  obtain ⟨n, hn, h⟩ := h
  exact ⟨n, hn, h.frame k hb⟩
theorem Stp.bk {w : World} {v : Value} {b : Nat} (h : Stp w v) (hb : isBlk v b) : b < w.heap.size := by
  obtain ⟨n, hn, h⟩ := h
  exact h.lt hb
set_option maxRecDepth 100000 in
set_option maxHeartbeats 4000000 in
theorem untouchedF {w : World} {mv : Value} {n : Nat} {f : Nat → Value} (h : MnA w mv n f) : Calls Try.prog 21 #[mv] w fun e w' => e = .returned (.bool true) ∧ Fr (fun _ => False) w w' := by
  obtain ⟨a, k, hv⟩ := h.os.sl
  have hle := h.le
  go_enter Try.func21, Try.ntmps21
  rw [hv]
  go_wp2_with fail
  refine (stampF w).mono ?_
  rintro v w1 ⟨rfl, f1⟩
  have X1 := boxN_blk w1 stNd
  have G1 := f1.alloc (boxN stNd)
  obtain ⟨bx, hbx⟩ : ∃ bx, w1.heap.size = bx := ⟨_, rfl⟩
  have hw1 : Hid _ := hbx
  unfold ndV
  go_wp2_with fail
  have HG1 : Hid _ := G1
  have HX1 : Hid (Blk (w1.alloc (boxN stNd)) w1.heap.size 8 (ndCell stNd)) := X1
  clear G1 X1
  rw [hbx] at HX1
  clear hbx
  go_loopg [4] n (fun g iv wr => ∃ i : Nat, iv = .int .i64 i ∧ i + g = n ∧ Fr (fun _ => False) w wr ∧ Blk wr bx 8 (ndCell stNd))
  case atStart => exact ⟨0, rfl, by omega, HG1.out, HX1.out⟩
  case round =>
    clear HG1 HX1
    obtain ⟨i, rfl, hg, FJ, XJ⟩ := hrel
    have hg' : Hid _ := hg
    have ib : (i : Int) ≤ 1000 := by omega
    by_cases hlt : i < n
    · have hI : decide ((i : Int) < (n : Nat)) = true := decide_eq_true (by omega)
      have hI2 : decide (i < n) = true := decide_eq_true hlt
      have hos := h.os.frame FJ (fun _ _ h => h)
      rcases hos with ⟨_, h0⟩ | ⟨b, cap, e1, hc, hB⟩
      · omega
      have e2 := hv.symm.trans e1
      cases e2
      clear e1
      obtain ⟨q, hq, hK⟩ := (h.st i hlt).frame FJ (fun _ _ h => h)
      obtain ⟨a2, hf⟩ := hK.sl
      simp only [List.length_replicate] at hf
      clear hg
      have hi16 : i < 16 := by omega
      go_wp2_with fail
      go_loopg [5] q (fun g2 jv wr2 => ∃ jj : Nat, jv = .int .i64 jj ∧ jj + g2 = q ∧ Fr (fun _ => False) wr wr2)
      case atStart => exact ⟨0, rfl, by omega, Fr.refl _ _⟩
      case round =>
        obtain ⟨jj, rfl, hg2, FK⟩ := hrel
        have hg2' : Hid _ := hg2
        have hB2 := hB.frame FK (fun h => h)
        have ci := hB2.cell (o := i) (by omega)
        rw [hf] at ci
        have hbl := hB2.lt
        have XK := XJ.frame FK (fun h => h)
        by_cases hj : jj < q
        · have z1 : decide ((jj : Int) < (q : Int)) = true := decide_eq_true (by omega)
          have z2 : decide (jj < q) = true := decide_eq_true hj
          obtain ⟨b2, f2, e3, hb2, hp2⟩ := (hK.frame FK (fun _ _ h => h)).get (k := jj) (by simpa using hj)
          rw [List.length_replicate] at e3 hb2
          have e4 := hf.symm.trans e3
          cases e4
          obtain ⟨m0, m1, m2, m3, m4, m5, m6, m7⟩ := hb2.node hp2 (k := jj) (by simpa using hj) (by omega)
          simp only [List.getElem_replicate] at m0 m1 m2 m3 m4 m5 m6 m7
          have lb := hb2.lt
          have x0 := XK.cell (o := 0) (by omega)
          have x1 := XK.cell (o := 1) (by omega)
          have x2 := XK.cell (o := 2) (by omega)
          have x3 := XK.cell (o := 3) (by omega)
          have x4 := XK.cell (o := 4) (by omega)
          have x5 := XK.cell (o := 5) (by omega)
          have x6 := XK.cell (o := 6) (by omega)
          have x7 := XK.cell (o := 7) (by omega)
          have xl := XK.lt
          simp only [ndCell] at x0 x1 x2 x3 x4 x5 x6 x7
          have HSN : Hid _ := sameNode stNd
          generalize stNd = sn at *
          have hj2 : jj < 200 := by omega
          have HFK : Hid _ := FK
          clear hg2 hB2 hb2 hp2 XK FK e3
          go_wp2_with fail
          refine wp_region_text (by kernel_rfl) (by kernel_rfl) ?_
          go_wp2_with fail
          refine (HSN.out _).mono ?_
          rintro x w2 ⟨rfl, f3⟩
          go_wp2_with fail
          refine ⟨by kernel_rfl, ?_⟩
          go_wp2_with fail
          go_roundg (gk - 1)
          case measure => have := hg2'.out; have := of_decide_eq_true z2; omega
          case rel => exact ⟨jj + 1, by simp, by have := hg2'.out; have := of_decide_eq_true z2; omega, (HFK.out.drew).trans f3 (fun _ _ h => h)⟩
        · have z1 : decide ((jj : Int) < (q : Int)) = false := decide_eq_false (by omega)
          have z2 : decide (jj < q) = false := decide_eq_false hj
          clear hg2 hj
          have HFK : Hid _ := FK
          clear FK
          go_wp2_with fail
          go_roundg (n - i - 1)
          case measure => have := hg'.out; have := of_decide_eq_true hI2; omega
          case rel => exact ⟨i + 1, by simp, by have := of_decide_eq_true hI2; omega, FJ.trans HFK.out (fun _ _ h => h), XJ.frame HFK.out (fun h => h)⟩
    · have hI : decide ((i : Int) < (n : Nat)) = false := decide_eq_false (by omega)
      have hI2 : decide (i < n) = false := decide_eq_false hlt
      clear hg hlt
      go_wp2_with fail
      go_ret
      exact ⟨rfl, FJ⟩
def rowS (f : Nat → Value) (n : Nat) : List Value := (List.range n).map f
theorem rowS_len (f : Nat → Value) (n : Nat) : (rowS f n).length = n := by simp [rowS]
theorem rowS_get {f : Nat → Value} {n j : Nat} {u : Value} (e : (rowS f n)[j]? = some u) : j < n ∧ u = f j := by
  obtain ⟨h1, h2⟩ := List.getElem?_eq_some_iff.1 e
  rw [rowS_len] at h1
  exact ⟨h1, by rw [← h2]; simp [rowS]⟩
section
variable {ops : Array Oper} {Q : Exit → Act → World → Prop} {a : Act} {w : World} {rest : List Oper} {o : Oper}
set_option maxRecDepth 100000 in
theorem wpList_appendS (hgd : o.guard = none) (s x : Operand) (ho : o.op = .call { callee := .builtin .append, args := #[s, x], argTypes := #[45, 45] })
    (v : Value) (n : Nat) (f : Nat → Value) (v1 : Value) (xb xc : Nat) (hs : a.eval s = v) (hx : a.eval x = .slice (some ⟨xb, 0, none⟩) 1 xc) (hv : OS w v n f) (hx1 : w.cell? ⟨xb, 0, none⟩ = some v1) (h2 : v1.oneCell' = true) (hlen : n ≤ 1000)
    (h : ∀ v' w' f', OS w' v' (n + 1) f' → (∀ j, j < n → f' j = f j) → f' n = v1 → (∀ b, isBlk v' b → w.heap.size ≤ b ∨ isBlk v b) → Fr (isBlk v) w w' → wpList Try.prog ops Q rest (a.put o.dst v') w') : wpList Try.prog ops Q (o :: rest) a w := by
  obtain ⟨ti, hi, hz, hsz, hby⟩ : ∃ ti, Try.prog.info? 38 = some ti ∧ ti.zero = some (.slice none 0 0) ∧ ti.size = 1 ∧ ti.bytes = 24 := by
    have e1 : (Try.prog.info? 38).map (·.size) = some 1 := by kernel_rfl
    have e2 : (Try.prog.info? 38).map (·.bytes) = some 24 := by kernel_rfl
    have e3 : (Try.prog.info? 38).bind (·.zero) = some (.slice none 0 0) := by kernel_rfl
    cases hq : Try.prog.info? 38 with
    | none => rw [hq] at e1; cases e1
    | some ti =>
      rw [hq] at e1 e2 e3
      exact ⟨ti, rfl, by simpa using e3, by simpa using e1, by simpa using e2⟩
  have hz9 : (Value.slice none 0 0).cells.size = 1 := by kernel_rfl
  have hadd : ∀ (b j : Nat), (⟨b, 0, none⟩ : Addr).add j = ⟨b, j, none⟩ := fun b j => by rw [Addr.add_lit]; simp
  have hnews : ∀ j u, [v1][j]? = some u → w.cell? ((⟨xb, 0, none⟩ : Addr).add j) = some u := fun j u e => by
    rw [hadd]
    match j, e with
    | 0, e => cases e; exact hx1
  have hone : ∀ u ∈ [v1], u.oneCell' = true := fun u hu => by
    simp only [List.mem_cons, List.not_mem_nil, or_false] at hu
    rw [hu]; exact h2
  have hgrow : ∀ v' w', w'.ownsRow w.heap.size 38 1 v' (n + 1) (rowS f n ++ [v1]) → w.grownBy w' none → wpList Try.prog ops Q rest (a.put o.dst v') w' := by
    intro v' w' hw1 hw2
    obtain ⟨_, ⟨_, h0⟩ | ⟨g, cap, cur, rfl, hg, hb, hn, _, hs, ht⟩⟩ := hw1
    · omega
    · have hcur : ∀ j u, j < n + 1 → (rowS f n ++ [v1])[j]? = some u → cur.getD j undef = u := fun j u hj e => by
        rw [← ht, List.getElem?_take] at e
        split at e
        · have hjs : j < cur.size := by omega
          simp [hjs] at e ⊢; exact e
        · omega
      refine h _ w' (fun o => cur.getD o undef) (.inr ⟨g, cap, rfl, hn, ⟨cur, 38, hb, by omega, fun o ho => by simp [show o < cur.size by omega]⟩⟩) (fun j hj => ?_) ?_ (fun b hb' => .inl (by rw [isBlk_one hb']; exact hg)) ((Fr.grown hw2).mono (fun _ _ h => h.elim))
      · refine hcur j (f j) (by omega) ?_
        rw [List.getElem?_append_left (by rw [rowS_len]; exact hj)]
        simp [rowS, hj]
      · refine hcur _ v1 (by omega) ?_
        rw [List.getElem?_append_right (by rw [rowS_len]; omega), rowS_len]
        simp
  rcases hv with ⟨rfl, rfl⟩ | ⟨b, cap, rfl, hc, hb⟩
  · exact wpList_append_grows w hgd s x 45 ho 38 ti _ 1 24 Try.underlying45 hi hz hsz hby hz9 (by omega) none 0 0 [] hs (fun _ => ⟨rfl, rfl⟩) rfl (fun _ e => by cases e) ⟨xb, 0, none⟩ 1 xc [v1] hx rfl hnews hone (by omega) (by simp [maxLen]) (by omega)
      (fun v' w' g1 g2 => hgrow v' w' g1 g2)
  · refine wpList_append_arg w hgd s x 45 ho 38 ti _ 1 24 Try.underlying45 hi hz hsz hby hz9 (by omega) b 0 n cap (rowS f n) hs (by simp [rowS_len]) (fun j u e => ?_)
      ⟨xb, 0, none⟩ 1 xc [v1] hx rfl hnews hone (fun hr j hj => ?_) (by simp only [maxLen]; omega) (by omega) (fun hr => ?_) (fun _ v' w' g1 g2 => hgrow v' w' g1 g2)
    · obtain ⟨hj, rfl⟩ := rowS_get e
      rw [Nat.zero_add, hb.cell (by omega)]
    · have hj2 : j < 1 := by simpa using hj
      rw [hb.cell (by omega)]
      exact ⟨rfl, hb.frozen _⟩
    · refine h _ _ (lay f (0 + n * 1) [v1]) (.inr ⟨b, cap, rfl, hr, hb.setCells _ _⟩) (fun j hj => lay_out _ _ _ _ (.inl (by omega))) ?_ (fun b' e => .inr (by rw [isBlk_one e]; exact ⟨_, _, rfl⟩)) ((Fr.refl _ _).setCells b (fun _ => ⟨_, _, rfl⟩) _ _)
      · rw [lay_in _ _ _ _ (by omega) (by simp)]; simp
end
def sh (f : Nat → Value) (j : Nat) : Nat → Value := fun o => if o < j then f (o + 1) else f o
theorem sh_zero (f : Nat → Value) : sh f 0 = f := by funext o; simp [sh]
theorem sh_at (f : Nat → Value) (j : Nat) : sh f j (j + 1) = f (j + 1) := by simp only [sh]; rw [if_neg (by omega)]
theorem sh_succ (f : Nat → Value) (j : Nat) : upd (sh f j) j (f (j + 1)) = sh f (j + 1) := by
  funext o
  simp only [upd, sh]
  by_cases e : o = j
  · subst e; simp
  · rw [if_neg e]
    by_cases h : o < j
    · rw [if_pos h, if_pos (by omega)]
    · rw [if_neg h, if_neg (by omega)]
structure KeepR (w : World) (mv xv : Value) (n : Nat) (f : Nat → Value) (mv' : Value) (n' : Nat) (f' : Nat → Value) (w' : World) : Prop where
  mn : MnA w' mv' n' f'
  bk : ∀ c, isBlk mv' c → w.heap.size ≤ c ∨ isBlk mv c
  of : ∀ j, j < n' → f' j = xv ∨ ∃ i, i < n ∧ f' j = f i
  fr : Fr (isBlk mv) w w'
theorem KeepR.mk' {w w' : World} {mv xv mv' : Value} {n n' q : Nat} {f f' : Nat → Value} (hM : MnA w mv n f) (hx : NLV w xv (List.replicate q stNd)) (hq : q ≤ 200) (hne : ∀ c, isBlk mv c → ¬ isBlk xv c ∧ ∀ j, j < n → ¬ isBlk (f j) c)
    (hl : n' ≤ 16) (ho : OS w' mv' n' f') (bk : ∀ c, isBlk mv' c → w.heap.size ≤ c ∨ isBlk mv c) (of : ∀ j, j < n' → f' j = xv ∨ ∃ i, i < n ∧ f' j = f i) (fr : Fr (isBlk mv) w w') : KeepR w mv xv n f mv' n' f' w' := by
  refine ⟨⟨hl, ho, fun j hj => ?_⟩, bk, of, fr⟩
  rcases of j hj with e | ⟨i, hi, e⟩
  · rw [e]; exact ⟨q, hq, hx.frame fr (fun c hc hm => (hne c hm).1 hc)⟩
  · rw [e]; exact (hM.st i hi).frame fr (fun c hc hm => (hne c hm).2 i hi hc)
set_option maxHeartbeats 1000000 in
theorem keepF {w : World} {mv xv : Value} {n q : Nat} {f : Nat → Value} (hM : MnA w mv n f) (hx : NLV w xv (List.replicate q stNd)) (hq : q ≤ 200) (hne : ∀ c, isBlk mv c → ¬ isBlk xv c ∧ ∀ j, j < n → ¬ isBlk (f j) c) :
    Calls Try.prog 23 #[mv, xv] w fun e w' => ∃ mv' n' f', e = .returned mv' ∧ KeepR w mv xv n f mv' n' f' w' := by
  obtain ⟨a, hv⟩ := hx.sl
  obtain ⟨a2, k2, hv2⟩ := hM.os.sl
  have hle := hM.le
  rw [List.length_replicate] at hv
  by_cases hq0 : q = 0
  · subst hq0
    have res : KeepR w mv xv n f mv n f w := .mk' hM hx hq hne hM.le hM.os (fun c hc => .inr hc) (fun j hj => .inr ⟨j, hj, rfl⟩) (Fr.refl _ _)
    rw [hv, hv2] at res ⊢
    go_enter Try.func23, Try.ntmps23
    go_wp2_with fail
    go_ret
    exact ⟨_, _, _, rfl, res⟩
  have hqi : ((q : Int) == 0) = false := by simp; omega
  by_cases hn : n < 16
  · have hni : (n : Int) < 16 := by omega
    have kA := (Fr.refl (fun _ => False) w).alloc (.cells #[xv] 38)
    have x0 : (w.alloc (.cells #[xv] 38)).cell? ⟨w.heap.size, 0, none⟩ = some xv := (Blk.new w #[xv] 38 (fun _ => xv) (fun o ho => by
      have ho : o < 1 := by simpa using ho
      obtain rfl : o = 0 := by omega
      rfl)).cell (by simp)
    have OA' := hM.os.frame kA (fun _ _ h => h)
    have kz := kA.size
    have hone : xv.oneCell' = true := by rw [hv]; rfl
    have HK : Hid (∀ v' w' f', OS w' v' (n + 1) f' → (∀ j, j < n → f' j = f j) → f' n = xv → (∀ b, isBlk v' b → (w.alloc (.cells #[xv] 38)).heap.size ≤ b ∨ isBlk mv b) → Fr (isBlk mv) (w.alloc (.cells #[xv] 38)) w' → KeepR w mv xv n f v' (n + 1) f' w') := by
      refine fun v' w' f' h1 h2 h3 h4 h5 => .mk' hM hx hq hne (by omega) h1 (fun c hc => ?_) (fun j hj => ?_) ((kA.mono (fun _ _ h => h.elim)).trans h5 (fun _ _ h => h))
      · rcases h4 c hc with h | h
        · exact .inl (Nat.le_trans kz h)
        · exact .inr h
      · by_cases e : j < n
        · exact .inr ⟨j, e, h2 j e⟩
        · obtain rfl : j = n := by omega
          exact .inl h3
    subst hv hv2
    clear hM hx hne kA kz
    go_enter Try.func23, Try.ntmps23
    go_wp2_with (
      at_builtin
      refine wpList_appendS (by rfl) _ _ (by rfl) _ n f _ w.heap.size 1 (by rfl) (by rfl) OA' x0 hone (by omega) ?_
      intro v' w5 f' h1 h2 h3 h4 h5)
    have R := HK.out v' w5 f' h1 h2 h3 h4 h5
    clear h4 h5 HK
    go_wp2_with fail
    go_ret
    exact ⟨_, _, _, rfl, R⟩
  · obtain rfl : n = 16 := by omega
    rcases hM.os with ⟨_, h0⟩ | ⟨b, cap, e1, hc, hB⟩
    · omega
    have hone : ∀ j, j < 16 → ∃ a k n, f j = .slice a n k := fun j hj => by
      obtain ⟨n, _, hK⟩ := hM.st j hj
      obtain ⟨a, e⟩ := hK.sl
      exact ⟨a, _, _, e⟩
    have e2 := hv2.symm.trans e1
    cases e2
    have HK : Hid (∀ w', Blk w' b k2 (upd (sh f 15) 15 xv) → Fr (isBlk mv) w w' → KeepR w mv xv 16 f mv 16 (upd (sh f 15) 15 xv) w') := by
      refine fun w' h1 h2 => .mk' hM hx hq hne (by omega) (.inr ⟨b, k2, hv2, hc, h1⟩) (fun c hc => .inr hc) (fun j hj => ?_) h2
      simp only [upd]
      by_cases e : j = 15
      · rw [if_pos e]; exact .inl rfl
      · rw [if_neg e]
        refine .inr ⟨j + 1, by omega, ?_⟩
        simp only [sh]; rw [if_pos (by omega)]
    have hfr0 : Fr (isBlk mv) w w := Fr.refl _ _
    have hmb : isBlk mv b := ⟨_, _, hv2⟩
    have Hmb : Hid _ := hmb
    subst hv hv2
    clear hM hne hx e1 hmb
    go_enter Try.func23, Try.ntmps23
    go_wp2_with fail
    go_loopg [5] 15 (fun g iv wr => ∃ j : Nat, iv = .int .i64 ((j + 1 : Nat) : Int) ∧ j + g = 15 ∧ Blk wr b k2 (sh f j) ∧ Fr (isBlk (.slice (some ⟨b, 0, none⟩) 16 k2)) w wr)
    case atStart => exact ⟨0, rfl, by omega, by rw [sh_zero]; exact hB, hfr0⟩
    case round =>
      obtain ⟨j, rfl, hg, hb, hfr⟩ := hrel
      have hg' : j + gk = 15 := hg
      clear hg hB hfr0
      have hbl := hb.lt
      have hbz := hb.frozen
      by_cases hlt : j < 15
      · have hI : decide (((j + 1 : Nat) : Int) < 16) = true := decide_eq_true (by omega)
        have hj1 : ((j + 1 : Nat) : Int) - 1 = j := by omega
        have hj2 : ((j + 1 : Nat) : Int) ≤ 16 := by omega
        obtain ⟨a3, k3, n3, hf3⟩ := hone (j + 1) (by omega)
        have c1 := hb.cell (o := j + 1) (by omega)
        rw [sh_at, hf3] at c1
        have c0 := hb.cell (o := j) (by omega)
        have hs := hb.set j (f (j + 1))
        rw [sh_succ] at hs
        have F := hfr.setC b j (f (j + 1)) (fun _ => Hmb.out)
        rw [hf3] at hs F
        have Hk : Hid (_ ∧ _) := ⟨hs, F⟩
        clear hb hfr hs F
        go_wp2_with fail
        go_roundg (gk - 1)
        case measure => omega
        case rel => exact ⟨j + 1, by simp, by omega, Hk.out.1, Hk.out.2⟩
      · obtain rfl : j = 15 := by omega
        have c0 := hb.cell (o := 15) (by omega)
        have hs := hb.set 15 (.slice a q q)
        have F := hfr.setC b 15 (.slice a q q) (fun _ => Hmb.out)
        have R := HK.out _ hs F
        have Hk : Hid _ := R
        clear hb hfr hs F R HK
        go_wp2_with fail
        go_ret
        exact ⟨_, _, _, rfl, Hk.out⟩
end Go.Proofs.Qxb6500280a
