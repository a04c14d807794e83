/- The real heap: Dump. -/
import Derived.Test.Qxb6500281aGreatKW9
import Derived.Test.Qxb6500281aGreatMake
namespace Go.Proofs.Qxb6500281aGreat
open Go Go.RowKit

/-- A list of numbers with no spare cell. -/
def LVi (w : World) (v : Value) (p : List Int) : Prop := ∃ b f, v = .slice (some ⟨b, 0, none⟩) p.length p.length ∧ Blk w b p.length f ∧ ∀ i (h : i < p.length), f i = .int .i64 p[i]
/-- A growing list beside the heap and the work list. -/
structure Dmp (w0 : World) (h : Nat) (S : HS) (b : Nat) (l : List Int) (wr : World) (dv : Value) (p : List Int) : Prop where
  K : KiAt wr dv p
  own : ∀ c, isB dv c → b < c
  L : LM wr b l
  H : HM wr h S
  fr : Fr (fun _ => False) w0 wr
  ne : 0 < p.length
  hb : h < b ∧ w0.heap.size ≤ b
section
variable {w0 : World} {h : Nat} {S : HS} {b : Nat} {l : List Int} {wr w' : World} {dv v' : Value} {p q : List Int}
theorem Dmp.same (D : Dmp w0 h S b l wr dv p) (k : Fr (fun _ => False) wr w') : Dmp w0 h S b l w' dv p :=
  ⟨D.K.frame k (fun _ _ h => h), D.own, D.L.frame k (fun h => h), D.H.frame k (fun h => h), D.fr.trans k (fun _ _ h => h), D.ne, D.hb⟩
theorem Dmp.app (D : Dmp w0 h S b l wr dv p) (hK : KiAt w' v' (p ++ q)) (hb : ∀ c, isB v' c → wr.heap.size ≤ c ∨ isB dv c) (k : Fr (isB dv) wr w') : Dmp w0 h S b l w' v' (p ++ q) := by
  have hlb := D.L.lt
  refine ⟨hK, fun c hc => ?_, D.L.frame k (fun hh => by have := D.own b hh; omega), D.H.frame k (fun hh => by have := D.own h hh; have := D.hb; omega), D.fr.trans k (fun c hc hh => by have := D.own c hh; have := D.hb; omega), by have := D.ne; simp; omega, D.hb⟩
  rcases hb c hc with h1 | h1
  · omega
  · exact D.own c h1
theorem one_cell (w : World) (x : Int) : (w.alloc (.cells #[.int .i64 x] 3)).cell? ⟨w.heap.size, 0, none⟩ = some (.int .i64 x) := (Blk.new w #[.int .i64 x] 3 (fun _ => .int .i64 x) (fun o ho => by
    have ho : o < 1 := by simpa using ho
    obtain rfl : o = 0 := by omega
    rfl)).cell (by simp)
theorem two_cell (w : World) (x y : Int) : (w.alloc (.cells #[.int .i64 x, .int .i64 y] 3)).cell? ⟨w.heap.size, 0, none⟩ = some (.int .i64 x) ∧ (w.alloc (.cells #[.int .i64 x, .int .i64 y] 3)).cell? ⟨w.heap.size, 1, none⟩ = some (.int .i64 y) := by
  have hb := Blk.new w #[.int .i64 x, .int .i64 y] 3 (fun o => if o = 0 then .int .i64 x else .int .i64 y) (fun o ho => by
    have ho : o < 2 := by simpa using ho
    obtain rfl | rfl : o = 0 ∨ o = 1 := by omega
    all_goals rfl)
  exact ⟨hb.cell (o := 0) (by simp), hb.cell (o := 1) (by simp)⟩
theorem Dmp.one (_ : Dmp w0 h S b l wr dv p) (x : Int) : KiP (wr.alloc (.cells #[.int .i64 x] 3)) wr.heap.size [x] := KiP.one (one_cell wr x)
theorem Dmp.two (_ : Dmp w0 h S b l wr dv p) (x y : Int) : KiP (wr.alloc (.cells #[.int .i64 x, .int .i64 y] 3)) wr.heap.size [x, y] := KiP.two (two_cell wr x y).1 (two_cell wr x y).2
end
def objD (S : HS) (l : List Int) (a : Int) : List Int := [((rfO S.mem a).length : Int), ((itO S.mem a).length : Int)] ++ (rfO S.mem a).map (fnd l) ++ itO S.mem a
theorem dump_eq (S : HS) : S.gh.dump = [(S.top : Int)] ++ (rts S S.top).map (fnd S.gh.ord) ++ [(S.gh.ord.length : Int)] ++ S.gh.ord.flatMap (objD S S.gh.ord) := by
  unfold Gh.dump
  rw [rt_len]
  rfl
theorem map_take {α : Type} (f : α → Int) {l : List α} {k : Nat} (h : k < l.length) : (l.take (k + 1)).map f = (l.take k).map f ++ [f l[k]] := by
  rw [List.take_succ_eq_append_getElem h, List.map_append]; rfl
theorem rts_map (S : HS) (f : Int → Int) (i : Nat) : (rts S (i + 1)).map f = (rts S i).map f ++ [f (S.roots i)] := by
  unfold rts; rw [List.range_succ]; simp
theorem flat_take (f : Int → List Int) {l : List Int} {k : Nat} (h : k < l.length) : (l.take (k + 1)).flatMap f = (l.take k).flatMap f ++ f l[k] := by
  rw [List.take_succ_eq_append_getElem h, List.flatMap_append, List.flatMap_singleton]
set_option maxRecDepth 100000 in
set_option maxHeartbeats 16000000 in
theorem dumpF {w : World} {h : Nat} {S : HS} {os : List Int} (H : HM w h S) (hI : HInv S os) :
    Calls Tryz.prog 39 #[.pointer (some ⟨h, 0, none⟩)] w fun e w' => ∃ v, e = .returned v ∧ LVi w' v S.gh.dump ∧ (∀ c, isB v c → w.heap.size ≤ c) ∧ HM w' h S ∧ Fr (fun _ => False) w w' := by
  have T := traceF H hI
  have hlt0 := H.lt
  have htop := hI.top
  have hok := hI.ok
  have hP : Part os S.gh.ord := ⟨hok.nd, hok.sub⟩
  have hl48 := hP.len hI
  have hdump : Hid (S.gh.dump = [(S.top : Int)] ++ (rts S S.top).map (fnd S.gh.ord) ++ [(S.gh.ord.length : Int)] ++ (S.gh.ord.take S.gh.ord.length).flatMap (objD S S.gh.ord)) := by
    show _ = _
    rw [List.take_length]
    exact dump_eq S
  generalize S.gh.ord = l at *
  generalize S.gh.dump = dmp at *
  have hh : h < w.heap.size := hlt0
  obtain ⟨b, hb⟩ : ∃ b, w.heap.size = b := ⟨_, rfl⟩
  rw [hb] at T hh
  have Hb : Hid _ := hb
  clear hb hok hlt0
  go_enter Tryz.func39, Tryz.ntmps39
  go_wp2_with fail
  refine T.mono ?_
  rintro e w1 ⟨rfl, L1, H1, f1⟩
  have ct := H1.top
  have hlt1 := H1.lt
  have hlb1 := L1.lt
  have kD := (Fr.refl (fun _ => False) w1).alloc (.cells #[.int .i64 (S.top : Int)] 3)
  have D0 : Dmp w h S b l (w1.alloc (.cells #[.int .i64 (S.top : Int)] 3)) (.slice (some ⟨w1.heap.size, 0, none⟩) 1 1) [(S.top : Int)] := by
    refine ⟨.inr ⟨w1.heap.size, 1, fun _ => .int .i64 (S.top : Int), rfl, Nat.le_refl _, ?_, fun i hi => ?_⟩, fun c hc => by rw [isB_one hc]; omega, L1.frame kD (fun h => h), H1.frame kD (fun h => h), f1.trans kD (fun _ _ h => h), by simp, hh, by have := Hb.out; omega⟩
    · exact Blk.new w1 #[.int .i64 (S.top : Int)] 3 (fun _ => .int .i64 (S.top : Int)) (fun o ho => by
        have ho : o < 1 := by simpa using ho
        obtain rfl : o = 0 := by omega
        rfl)
    · have hi : i < 1 := by simpa using hi
      obtain rfl : i = 0 := by omega
      rfl
  clear T H L1 H1 f1 kD
  go_wp2_with fail
  go_loopg [4, 5] S.top (fun g dv kv wr => ∃ i : Nat, kv = .int .i64 i ∧ i + g = S.top ∧ Dmp w h S b l wr dv ([(S.top : Int)] ++ (rts S i).map (fnd l)))
  case atStart => exact ⟨0, rfl, by omega, by simpa [rts] using D0⟩
  case round =>
    clear D0 ct hlt1 hlb1
    obtain ⟨i, rfl, hig, D⟩ := hrel
    have hig' : i + gk = S.top := hig
    clear hig
    have hlt := D.H.lt
    have ct := D.H.top
    by_cases hi : i < S.top
    · have hi' : (i : Int) < S.top := by omega
      have cr := D.H.root (i := i) (by omega)
      have FN := findF D.L (S.roots i)
      have hlen : (rts S i).length = i := by simp [rts]
      have He : Hid _ := rts_map S (fnd l) i
      go_wp2_with fail
      refine FN.mono ?_
      rintro e w2 ⟨rfl, rfl⟩
      have DA := D.same ((Fr.refl (fun _ => False) _).alloc (.cells #[.int .i64 (fnd l (S.roots i))] 3))
      have hx := D.one (fnd l (S.roots i))
      go_wp2_with (
        at_builtin
        refine wpList_appendI (by rfl) _ _ (by rfl) _ _ [(fnd l (S.roots i))] _ 1 1 (by rfl) (by rfl) rfl DA.K hx (.inl DA.ne) (by simp; omega) ?_
        intro v' w5 hc5 hb5 f5)
      have D5 := DA.app hc5 hb5 f5
      clear hc5 hb5 f5 hx DA
      clear FN D cr ct hlt
      go_wp2_with fail
      go_roundg (gk - 1)
      case measure => omega
      case rel => exact ⟨i + 1, by simp, by omega, by rw [He.out, ← List.append_assoc]; exact D5⟩
    · have hin : i = S.top := by omega
      subst hin
      clear hi hig'
      have cn := D.L.n
      have hlb := D.L.lt
      have hlen : (rts S S.top).length = S.top := by simp [rts]
      have DA := D.same ((Fr.refl (fun _ => False) _).alloc (.cells #[.int .i64 (l.length : Int)] 3))
      have hx := D.one (l.length : Int)
      go_wp2_with (
        at_builtin
        refine wpList_appendI (by rfl) _ _ (by rfl) _ _ [(l.length : Int)] _ 1 1 (by rfl) (by rfl) rfl DA.K hx (.inl DA.ne) (by simp; omega) ?_
        intro v' w5 hc5 hb5 f5)
      have D5 := DA.app hc5 hb5 f5
      clear hc5 hb5 f5 hx DA
      clear D ct cn hlt hlb
      obtain ⟨pre, hpre⟩ : ∃ pre, pre = [(S.top : Int)] ++ (rts S S.top).map (fnd l) ++ [(l.length : Int)] := ⟨_, rfl⟩
      rw [← hpre] at D5 hdump
      have hprel : pre.length ≤ 26 := by rw [hpre]; simp [hlen]; omega
      clear hpre hlen
      go_wp2_with fail
      go_loopg [4, 6] l.length (fun g dv kv wr => ∃ k : Nat, kv = .int .i64 k ∧ k + g = l.length ∧ ∃ p, p = pre ++ (l.take k).flatMap (objD S l) ∧ p.length ≤ 26 + 100 * k ∧ Dmp w h S b l wr dv p)
      case atStart => exact ⟨0, rfl, by omega, _, rfl, by simp; omega, by simpa using D5⟩
      case round =>
        clear D5
        obtain ⟨k, rfl, hkg, p, hp, hpl, D⟩ := hrel
        have hkg' : k + gk = l.length := hkg
        clear hkg
        obtain ⟨g0, hg0⟩ : ∃ g0, gk = g0 := ⟨_, rfl⟩
        have Hp : Hid _ := hp
        clear hp
        have hlt := D.H.lt
        have hlb := D.L.lt
        have cn := D.L.n
        by_cases hk : k < l.length
        · have hk' : (k : Int) < l.length := by omega
          have ck := D.L.at hk
          obtain ⟨a, ha, a1, a2, a3, a4, a5⟩ := hI.row.hd hI.le96.1 (hP.sub _ (List.getElem_mem hk))
          have Hfl : Hid _ := flat_take (objD S l) hk
          rw [ha] at ck Hfl
          have ca := D.H.mem a1
          have hRf := fun w => refs_any (S.mem a) a4 a5 w
          have hNf := fun w => ints_any (S.mem a) a4 a5 w
          have e3 : (S.mem a).toNat / 49 = nrO S.mem a := rfl
          have e4 : (S.mem a).toNat % 49 = niO S.mem a := rfl
          rw [e3] at hRf
          rw [e4] at hNf
          have hwd : wdO S.mem a = 1 + nrO S.mem a + niO S.mem a := rfl
          have h96 := hI.le96.1
          have hle := hI.le
          have hsz : a + 1 + nrO S.mem a + niO S.mem a ≤ 96 := by omega
          have hnr : nrO S.mem a ≤ 47 := by omega
          have hni : niO S.mem a ≤ 47 := by omega
          have hk48 : k < 48 := by omega
          have hro : (rfO S.mem a).length = nrO S.mem a := by rw [rfO_len]; simp
          have hio : (itO S.mem a).length = niO S.mem a := by rw [itO_len]; simp
          have Hro : Hid _ := hro
          have Hio : Hid _ := hio
          clear e3 e4 hwd ha a2 a3 hro hio
          go_wp2_with fail
          refine (hRf _).mono ?_
          rintro e w2 ⟨rfl, rfl⟩
          go_wp2_with fail
          refine (hNf _).mono ?_
          rintro e w2 ⟨rfl, rfl⟩
          have DA := D.same ((Fr.refl (fun _ => False) _).alloc (.cells #[.int .i64 (nrO S.mem a : Nat), .int .i64 (niO S.mem a : Nat)] 3))
          have hx := D.two (nrO S.mem a : Nat) (niO S.mem a : Nat)
          go_wp2_with (
            at_builtin
            refine wpList_appendI (by rfl) _ _ (by rfl) _ _ [((nrO S.mem a : Nat) : Int), ((niO S.mem a : Nat) : Int)] _ 2 2 (by rfl) (by rfl) rfl DA.K hx (.inl DA.ne) (by simp; omega) ?_
            intro v' w5 hc5 hb5 f5)
          have D5 := DA.app hc5 hb5 f5
          clear hc5 hb5 f5 hx DA D ck ca cn hlt hlb
          go_loopg [4, 10] (nrO S.mem a) (fun g dv kv wr => ∃ j : Nat, kv = .int .i64 ((j + 1 : Nat) : Int) ∧ j + g = nrO S.mem a ∧ ∃ q, q = p ++ [((nrO S.mem a : Nat) : Int), ((niO S.mem a : Nat) : Int)] ++ ((rfO S.mem a).take j).map (fnd l) ∧ q.length ≤ 26 + 100 * k + 2 + j ∧ Dmp w h S b l wr dv q)
          case atStart => exact ⟨0, rfl, by omega, _, rfl, by simp; omega, by simpa using D5⟩
          case round =>
            clear D5
            obtain ⟨j, rfl, hjg, q, hq, hql, D⟩ := hrel
            have hjg' : j + gk = nrO S.mem a := hjg
            have Hq : Hid _ := hq
            clear hjg hq
            have hlt := D.H.lt
            by_cases hj : j < nrO S.mem a
            · have hj' : ((j + 1 : Nat) : Int) ≤ nrO S.mem a := by omega
              have cm := D.H.mem (o := a + (j + 1)) (by omega)
              have FN := findF D.L (S.mem (a + (j + 1)))
              have hs96 : a + (j + 1) < 96 := by omega
              have He : Hid (((rfO S.mem a).take (j + 1)).map (fnd l) = ((rfO S.mem a).take j).map (fnd l) ++ [fnd l (S.mem (a + (j + 1)))]) := by
                show _ = _
                rw [map_take (fnd l) (by rw [Hro.out]; exact hj), rfO_get]
                simp only [Int.toNat_natCast]
                congr 4
                omega
              go_wp2_with fail
              refine FN.mono ?_
              rintro e w2 ⟨rfl, rfl⟩
              have DA := D.same ((Fr.refl (fun _ => False) _).alloc (.cells #[.int .i64 (fnd l (S.mem (a + (j + 1))))] 3))
              have hx := D.one (fnd l (S.mem (a + (j + 1))))
              go_wp2_with (
                at_builtin
                refine wpList_appendI (by rfl) _ _ (by rfl) _ _ [(fnd l (S.mem (a + (j + 1))))] _ 1 1 (by rfl) (by rfl) rfl DA.K hx (.inl DA.ne) (by simp; omega) ?_
                intro v' w5 hc5 hb5 f5)
              have D5 := DA.app hc5 hb5 f5
              clear hc5 hb5 f5 hx DA
              clear FN D cm hlt
              go_wp2_with fail
              go_roundg (gk - 1)
              case measure => omega
              case rel => exact ⟨j + 1, by simp, by omega, _, by rw [He.out, ← List.append_assoc, ← Hq.out], by simp; omega, D5⟩
            · have hjn : j = nrO S.mem a := by omega
              have hj2 : ¬ (((j + 1 : Nat) : Int) ≤ nrO S.mem a) := by omega
              have Hq2 : Hid (q = p ++ [((nrO S.mem a : Nat) : Int), ((niO S.mem a : Nat) : Int)] ++ (rfO S.mem a).map (fnd l)) := by
                show _ = _
                rw [Hq.out, List.take_of_length_le (by rw [Hro.out]; omega)]
              have hql2 : q.length ≤ 26 + 100 * k + 2 + nrO S.mem a := by omega
              clear Hq hql hjn hjg'
              go_wp2_with fail
              go_loopg [4, 11] (niO S.mem a) (fun g dv kv wr => ∃ j : Nat, kv = .int .i64 ((j + 1 : Nat) : Int) ∧ j + g = niO S.mem a ∧ ∃ r, r = q ++ (itO S.mem a).take j ∧ r.length ≤ 26 + 100 * k + 2 + nrO S.mem a + j ∧ Dmp w h S b l wr dv r)
              case atStart => exact ⟨0, rfl, by omega, _, rfl, by simp; omega, by simpa using D⟩
              case round =>
                clear D hj hj2 hlt
                obtain ⟨j2, rfl, hjg, r, hr, hrl, D⟩ := hrel
                have hjg' : j2 + gk = niO S.mem a := hjg
                have Hr : Hid _ := hr
                clear hjg hr
                have hlt := D.H.lt
                by_cases hj : j2 < niO S.mem a
                · have hj' : ((j2 + 1 : Nat) : Int) ≤ niO S.mem a := by omega
                  have cm := D.H.mem (o := a + nrO S.mem a + (j2 + 1)) (by omega)
                  have hs96 : a + nrO S.mem a + (j2 + 1) < 96 := by omega
                  have He : Hid ((itO S.mem a).take (j2 + 1) = (itO S.mem a).take j2 ++ [S.mem (a + nrO S.mem a + (j2 + 1))]) := by
                    show _ = _
                    rw [List.take_succ_eq_append_getElem (by rw [Hio.out]; exact hj), itO_get]
                    simp only [Int.toNat_natCast]
                    congr 3
                    omega
                  have DA := D.same ((Fr.refl (fun _ => False) _).alloc (.cells #[.int .i64 (S.mem (a + nrO S.mem a + (j2 + 1)))] 3))
                  have hx := D.one (S.mem (a + nrO S.mem a + (j2 + 1)))
                  go_wp2_with (
                    at_builtin
                    refine wpList_appendI (by rfl) _ _ (by rfl) _ _ [(S.mem (a + nrO S.mem a + (j2 + 1)))] _ 1 1 (by rfl) (by rfl) rfl DA.K hx (.inl DA.ne) (by simp; omega) ?_
                    intro v' w5 hc5 hb5 f5)
                  have D5 := DA.app hc5 hb5 f5
                  clear hc5 hb5 f5 hx DA
                  clear D cm hlt
                  go_wp2_with fail
                  go_roundg (gk - 1)
                  case measure => omega
                  case rel => exact ⟨j2 + 1, by simp, by omega, _, by rw [He.out, ← List.append_assoc, ← Hr.out], by simp; omega, D5⟩
                · have hjn : j2 = niO S.mem a := by omega
                  have hj2 : ¬ (((j2 + 1 : Nat) : Int) ≤ niO S.mem a) := by omega
                  have Hr2 : Hid (r = pre ++ (l.take (k + 1)).flatMap (objD S l)) := by
                    show _ = _
                    rw [Hfl.out, ← List.append_assoc, ← Hp.out, Hr.out, Hq2.out, List.take_of_length_le (by rw [Hio.out]; omega)]
                    unfold objD
                    rw [Hro.out, Hio.out]
                    simp
                  have hrl2 : r.length ≤ 26 + 100 * (k + 1) := by omega
                  clear Hr hjn hjg' Hq2
                  go_wp2_with fail
                  go_roundg (g0 - 1)
                  case measure => omega
                  case rel => exact ⟨k + 1, by simp, by omega, _, Hr2.out, hrl2, D⟩
        · have hkn : k = l.length := by omega
          subst hkn
          have hk2 : ¬ ((l.length : Int) < l.length) := by omega
          have Hd : Hid (dmp = p) := by show _ = _; rw [hdump.out, ← Hp.out]
          clear Hp hkg'
          obtain ⟨dvb, dvc, df, rfl, hdc, hdb, hdf⟩ : ∃ b' c f, u4 = .slice (some ⟨b', 0, none⟩) p.length c ∧ p.length ≤ c ∧ Blk wr b' c f ∧ ∀ i (h : i < p.length), f i = .int .i64 p[i] := by
            rcases D.K with ⟨_, hnil⟩ | hh
            · have := D.ne; rw [hnil] at this; simp at this
            · exact hh
          have hpos := D.ne
          have hpl2 : p.length ≤ 5000 := by omega
          go_wp2_with (first
            | (refine wpList_makeB (by rfl) 35 _ _ (by rfl) 3 1 8 (iv 0) p.length (by rfl) (by rfl) Tryz.underlying35 (by kernel_rfl) (by kernel_rfl) (by kernel_rfl) (by omega) (by omega) ?_; intro w6 f6 z6 b6; have hdb6 := hdb.frame f6 (fun h => h); have D6 := D.same f6; have hl6 := D6.H.lt; have hd6 := hdb6.lt)
            | (refine wpList_copyA (by rfl) _ _ 35 35 (by rfl) 3 1 wr.heap.size 0 p.length p.length dvb 0 p.length dvc (p.length * 1) dvc p.length _ df (by rfl) (by rfl) Tryz.underlying35 (by kernel_rfl) (by simp) b6 hdb6 (by omega) (by omega) (fun j hj => by rw [Nat.zero_add, hdf j (by omega)]; rfl) ?_; intro w7 f7 b7))
          have hwz := D.fr.size
          have hlbz := D.L.lt
          have hlhz := D.H.lt
          refine bodyPost_ret (v := .slice (some ⟨wr.heap.size, 0, none⟩) p.length p.length) (by simp [results, Tryz.results39, go_sem]) rfl ?_
          refine ⟨_, rfl, ?_, fun c hc => by rw [isB_one hc]; omega, D6.H.frame f7 (by omega), D6.fr.trans f7 (fun c hc e => by omega)⟩
          rw [Hd.out]
          refine ⟨wr.heap.size, _, rfl, by simpa using b7, fun i hi => ?_⟩
          rw [lay_in _ _ _ _ (by omega) (by simp [rowOf]; omega)]
          simp only [rowOf, List.getElem_map, List.getElem_range]
          rw [Nat.zero_add]
          simpa using hdf i hi
end Go.Proofs.Qxb6500281aGreat
