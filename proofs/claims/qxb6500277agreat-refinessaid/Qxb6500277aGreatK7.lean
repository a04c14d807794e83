/- The heap's plain side: the collection, tidy. -/
import Derived.Test.Qxb6500277aGreatK6
namespace Go.Proofs.Qxb6500277aGreat
open Go Go.RowKit

theorem wdL_ge (m : Nat → Int) (l : List Int) : l.length ≤ wdL m l := by
  induction l with
  | nil => simp
  | cons a r ih =>
    have := wdO_pos m a.toNat
    simp only [wdL, List.map_cons, List.sum_cons, List.length_cons] at ih ⊢
    omega
/-- What an order is: each once, all from a finite stock, the roots and all below them. -/
structure OrdOk (g : Gh) (stock : List Int) : Prop where
  nd : g.ord.Nodup
  sub : ∀ x ∈ g.ord, x ∈ stock
  rt : ∀ x ∈ g.rt, x = -1 ∨ x ∈ g.ord
  cl : ∀ x ∈ g.ord, ∀ y ∈ g.R x, y = -1 ∨ y ∈ g.ord
theorem ordOk {g : Gh} {stock : List Int} (hl : stock.length ≤ 100) (hp : ∀ x ∈ stock, 0 ≤ x) (hr : ∀ x ∈ g.rt, x = -1 ∨ x ∈ stock) (hc : ∀ x ∈ stock, ∀ y ∈ g.R x, y = -1 ∨ y ∈ stock) : OrdOk g stock := by
  have hnd : g.ord.Nodup := scanF_nodup _ _ (notes_nodup _ (by simp))
  have hsub : ∀ x ∈ g.ord, x ∈ stock := by
    refine scanF_all (U := fun x => x ∈ stock) (fun x hx y hy h0 => ?_) _ _ (fun x hx => ?_)
    · rcases hc x hx y hy with h | h
      · omega
      · exact h
    · rcases (notes_mem _).1 hx with h | ⟨h, h0⟩
      · cases h
      · rcases hr x h with h | h
        · omega
        · exact h
  have hcl : ∀ x ∈ g.ord, ∀ y ∈ g.R x, 0 ≤ y → y ∈ g.ord := scanF_closed (m := stock) 100 0 (by omega) (notes_nodup _ (by simp)) hsub (fun i _ h => by omega)
  refine ⟨hnd, hsub, fun x hx => ?_, fun x hx y hy => ?_⟩
  · rcases hr x hx with h | h
    · exact .inl h
    · exact .inr ((scanF_sub 100 0 _).mem ((notes_mem _).2 (.inr ⟨hx, hp x h⟩)))
  · rcases hc x (hsub x hx) y hy with h | h
    · exact .inl h
    · exact .inr (hcl x hx y hy (hp y h))
/-- No more is listed than must be. -/
theorem ord_least {g : Gh} {U : Int → Prop} (hr : ∀ x ∈ g.rt, 0 ≤ x → U x) (hc : ∀ x, U x → ∀ y ∈ g.R x, 0 ≤ y → U y) : ∀ x ∈ g.ord, U x := by
  refine scanF_all (U := U) hc _ _ (fun x hx => ?_)
  rcases (notes_mem _).1 hx with h | ⟨h, h0⟩
  · cases h
  · exact hr x h h0
theorem HInv.rtm {S : HS} {os : List Int} (hI : HInv S os) : ∀ x ∈ S.gh.rt, x = -1 ∨ x ∈ os := fun x hx => by
  obtain ⟨i, hi, rfl⟩ := List.mem_map.1 hx
  exact hI.rts i (List.mem_range.1 hi)
theorem HInv.ok {S : HS} {os : List Int} (hI : HInv S os) : OrdOk S.gh os := by
  have h1 := hI.row.sum
  have h2 := wdL_ge S.mem os
  have h3 := hI.le
  exact ordOk (by omega) (fun x hx => (hI.row.mem hx).1) hI.rtm hI.cl
theorem gh_live (S : HS) : S.gh.live = wdL S.mem S.gh.ord := by
  unfold Gh.live wdL
  congr 1
  refine List.map_congr_left fun x _ => ?_
  simp only [HS.gh, rfO_len, itO_len, wdO]
theorem HInv.live {S : HS} {os : List Int} (hI : HInv S os) : S.base + S.gh.live ≤ S.free := by
  rw [gh_live, ← hI.row.sum]
  have := nodup_sum (fun x : Int => wdO S.mem x.toNat) hI.ok.nd hI.ok.sub
  unfold wdL
  omega
/-- All objects of the row live. -/
theorem HInv.full {S : HS} {os : List Int} (hI : HInv S os) (ha : ∀ x ∈ os, x ∈ S.gh.ord) : S.free = S.base + S.gh.live := by
  have h1 := hI.live
  rw [gh_live] at h1 ⊢
  have h2 := nodup_sum (fun x : Int => wdO S.mem x.toNat) hI.row.nodup ha
  have h3 := hI.row.sum
  unfold wdL at *
  omega
/-- What a collection leaves. -/
structure Coll (S S1 : HS) : Prop where
  col : ∃ os, HInv S os ∧ Col S.mem S.base (48 - S.base) S.free os S.gh.ord S.gh.ord.length 0 S1.mem
  base : S1.base = 48 - S.base
  free : S1.free = adr S.mem (48 - S.base) S.gh.ord S.gh.ord.length
  roots : ∀ i, i < S.top → S1.roots i = nwA S.mem (48 - S.base) S.gh.ord (S.roots i)
  top : S1.top = S.top
theorem adr_inj {m : Nat → Int} {to : Nat} {l : List Int} {i j : Nat} (hi : i < l.length) (hj : j < l.length) (h : adr m to l i = adr m to l j) : i = j := by
  rcases Nat.lt_trichotomy i j with h1 | h1 | h1
  · have := adr_lt (m := m) (to := to) hi h1; have := wdO_pos m l[i].toNat; omega
  · exact h1
  · have := adr_lt (m := m) (to := to) hj h1; have := wdO_pos m l[j].toNat; omega
theorem Coll.sim {S S1 : HS} (h : Coll S S1) : ∃ os1, HInv S1 os1 ∧ Sim (Num S.gh.ord (fun k => (adr S.mem (48 - S.base) S.gh.ord k : Int))) S.gh S1.gh ∧ (∀ a b, Num S.gh.ord (fun k => (adr S.mem (48 - S.base) S.gh.ord k : Int)) a b → b ∈ os1) ∧ S1.free = S1.base + S.gh.live ∧ ∀ x ∈ os1, x ∈ S1.gh.ord := by
  obtain ⟨os, hI, hc⟩ := h.col
  have hok := hI.ok
  have hpos : ∀ x ∈ S.gh.ord, 0 ≤ x := fun x hx => (hI.row.mem (hok.sub x hx)).1
  have hsim : Sim (Num S.gh.ord (fun k => (adr S.mem (48 - S.base) S.gh.ord k : Int))) S.gh S1.gh := by
    refine renum (nw := nwA S.mem (48 - S.base) S.gh.ord) hok.nd hpos (fun k _ => by omega) (fun i j hi hj he => adr_inj (m := S.mem) (to := 48 - S.base) hi hj (by omega)) (fun x _ => rfl) hok.rt ?_ ?_
    · simp only [HS.gh, List.map_map, h.top]
      refine List.map_congr_left fun i hi => ?_
      exact h.roots i (List.mem_range.1 hi)
    · intro k hk
      obtain ⟨h1, h2⟩ := hc.rfN hk
      exact ⟨h1, hc.itN hk, h2⟩
  have hmem : ∀ x, x = -1 ∨ x ∈ S.gh.ord → nwA S.mem (48 - S.base) S.gh.ord x = -1 ∨ nwA S.mem (48 - S.base) S.gh.ord x ∈ adrs S.mem (48 - S.base) S.gh.ord S.gh.ord.length := by
    rintro x (rfl | hx)
    · exact .inl (by simp [nwA])
    · obtain ⟨i, hi, h1, h2⟩ := fnd_mem hx
      have := hpos x hx
      refine .inr (List.mem_map.2 ⟨i, List.mem_range.2 hi, ?_⟩)
      unfold nwA
      rw [if_neg (by omega), h1]
      simp
  have hb := hI.base
  have hrow := hc.rowN S.gh.ord.length (Nat.le_refl _)
  have hI1 : HInv S1 (adrs S.mem (48 - S.base) S.gh.ord S.gh.ord.length) := by
    refine ⟨by rw [h.base]; omega, by rw [h.base, h.free]; exact hrow, by rw [h.base, h.free]; exact hc.fit, by rw [h.top]; exact hI.top, ?_, ?_⟩
    · intro i hi
      rw [h.top] at hi
      rw [h.roots i hi]
      exact hmem _ (hok.rt _ (List.mem_map.2 ⟨i, List.mem_range.2 hi, rfl⟩))
    · intro a ha y hy
      obtain ⟨k, hk, rfl⟩ := List.mem_map.1 ha
      have hk := List.mem_range.1 hk
      obtain ⟨h1, h2⟩ := hc.rfN hk
      rw [h1] at hy
      obtain ⟨z, hz, rfl⟩ := List.mem_map.1 hy
      exact hmem z (h2 z hz)
  have hlive : S1.free = S1.base + S.gh.live := by rw [h.free, adr_len, h.base, gh_live]
  refine ⟨_, hI1, hsim, ?_, hlive, ?_⟩
  · rintro a b ⟨k, hk, rfl, rfl⟩
    exact List.mem_map.2 ⟨k, List.mem_range.2 hk, rfl⟩
  · intro x hx
    obtain ⟨k, hk, rfl⟩ := List.mem_map.1 hx
    have hk := List.mem_range.1 hk
    exact (hsim.ord.mem hsim.pr (a := S.gh.ord[k]) ⟨k, hk, rfl, rfl⟩).1 (List.getElem_mem hk)
/-- The model's tidy. -/
def tidyM (M : MS) : MS := ⟨M.gh.ord.map fun x => ((rfM M.objs x).map (fnd M.gh.ord), itM M.objs x), M.rt.map (fnd M.gh.ord)⟩
def stockM (n : Nat) : List Int := (List.range n).map fun k : Nat => (k : Int)
theorem stock_mem {n : Nat} {x : Int} : x ∈ stockM n ↔ 0 ≤ x ∧ x < n := by
  unfold stockM
  constructor
  · intro h
    obtain ⟨k, hk, rfl⟩ := List.mem_map.1 h
    have := List.mem_range.1 hk
    omega
  · rintro ⟨h1, h2⟩
    exact List.mem_map.2 ⟨x.toNat, List.mem_range.2 (by omega), by omega⟩
theorem rfM_get {os : List (List Int × List Int)} {i : Int} (h : i.toNat < os.length) : rfM os i = os[i.toNat].1 ∧ itM os i = os[i.toNat].2 := by
  simp only [rfM, itM, List.getElem?_eq_getElem h, Option.map_some, Option.getD_some, and_self]
theorem MInv.ok {M : MS} (mi : MInv M) : OrdOk M.gh (stockM M.objs.length) := by
  refine ordOk (by have := mi.len; simp [stockM]; omega) (fun x hx => (stock_mem.1 hx).1) (fun x hx => ?_) (fun x hx y hy => ?_)
  · exact (mi.rts x hx).imp id stock_mem.2
  · have hx := stock_mem.1 hx
    have hl : x.toNat < M.objs.length := by omega
    have hy : y ∈ rfM M.objs x := hy
    rw [(rfM_get hl).1] at hy
    exact (mi.cl _ (List.getElem_mem hl) y hy).imp id stock_mem.2
theorem tidied {M : MS} (mi : MInv M) : MInv (tidyM M) ∧ Sim (Num M.gh.ord (fun k => (k : Int))) M.gh (tidyM M).gh ∧ (tidyM M).objs.length = M.gh.ord.length := by
  have hok := mi.ok
  have hlen : M.gh.ord.length ≤ M.objs.length := by
    have := nodup_len hok.nd hok.sub
    simpa [stockM] using this
  have hpos : ∀ x ∈ M.gh.ord, 0 ≤ x := fun x hx => (stock_mem.1 (hok.sub x hx)).1
  have hneg : fnd M.gh.ord (-1) = -1 := fnd_miss fun h => by have := hpos _ h; omega
  have hin : ∀ x, x = -1 ∨ x ∈ M.gh.ord → InM M.gh.ord.length (fnd M.gh.ord x) := by
    rintro x (rfl | hx)
    · exact .inl hneg
    · obtain ⟨i, hi, h1, h2⟩ := fnd_mem hx
      exact .inr ⟨by omega, by omega⟩
  have hL : (tidyM M).objs.length = M.gh.ord.length := by simp [tidyM]
  have hget : ∀ k (hk : k < M.gh.ord.length), (tidyM M).objs[k]'(by omega) = ((rfM M.objs M.gh.ord[k]).map (fnd M.gh.ord), itM M.objs M.gh.ord[k]) := fun k hk => by simp [tidyM]
  have hcl : ∀ k (hk : k < M.gh.ord.length), ∀ y ∈ rfM M.objs M.gh.ord[k], y = -1 ∨ y ∈ M.gh.ord := fun k hk => hok.cl _ (List.getElem_mem hk)
  refine ⟨⟨?_, ?_, ?_, ?_⟩, ?_, hL⟩
  · intro x hx
    obtain ⟨y, hy, rfl⟩ := List.mem_map.1 hx
    rw [hL]
    exact hin y (hok.rt y hy)
  · intro o ho y hy
    obtain ⟨k, hk, rfl⟩ := List.getElem_of_mem ho
    rw [hget k (by omega)] at hy
    obtain ⟨z, hz, rfl⟩ := List.mem_map.1 hy
    rw [hL]
    exact hin z (hcl k (by omega) z hz)
  · have := mi.len; omega
  · intro o ho
    obtain ⟨k, hk, rfl⟩ := List.getElem_of_mem ho
    have hk2 : k < M.gh.ord.length := by omega
    have hx := stock_mem.1 (hok.sub _ (List.getElem_mem hk2))
    have hl : (M.gh.ord[k]).toNat < M.objs.length := by omega
    have hsz := mi.sz _ (List.getElem_mem hl)
    rw [hget k hk2, (rfM_get hl).1, (rfM_get hl).2]
    simpa using hsz
  · refine renum (nw := fnd M.gh.ord) hok.nd hpos (fun k _ => by omega) (fun i j _ _ he => by omega) ?_ hok.rt rfl ?_
    · rintro x (rfl | hx)
      · rw [hneg]; simp
      · obtain ⟨i, hi, h1, h2⟩ := fnd_mem hx
        have := hpos x hx
        rw [if_neg (by omega), h1]
        simp
    · intro k hk
      have hl : ((k : Int)).toNat < (tidyM M).objs.length := by omega
      have h1 := rfM_get hl
      simp only [Int.toNat_natCast, hget k hk] at h1
      exact ⟨h1.1, h1.2, hcl k hk⟩
end Go.Proofs.Qxb6500277aGreat
