/- The law: what the walk holds. -/
import Derived.Test.Qxb6500276aGreatLC4
import Derived.Test.Qxb6500276aGreatMD9
import Derived.Test.Qxb6500276aGreatCNw
import Derived.Test.Qxb6500276aGreatCSp
namespace Go.Proofs.Qxb6500276aGreat
open Go Go.RowKit

/-- Every block of the law's state has one colour. -/
structure Kol (lo n : Nat) (κ : Nat → Nat) (c m q : Nat) (Op : Nat → Prop) (hx hm : Value) (l1 l2 : List Cr) : Prop where
  k1 : ∀ b, b = c ∨ Op b → κ b = 1
  k2 : ∀ b, b = m ∨ b = q → κ b = 2
  k3 : ∀ b, isBlk hx b → κ b = 3
  k4 : ∀ b, isBlk hm b → κ b = 4
  k5 : ∀ x, x ∈ l1 ∨ x ∈ l2 → ∀ b, inA x b → κ b = 5
  lo : ∀ b, κ b ≠ 0 → lo ≤ b ∧ b < n
structure Law (lo : Nat) (w : World) (p c m q : Nat) (Op : Nat → Prop) (hx hm : Value) (l1 l2 : List Cr) : Prop where
  R : RIx w p Op
  C : CI w c p
  M : MCI w m q
  nc : ¬ Op c
  X : SlC w hx l1
  Y : SlC w hm l2
  n1 : l1.length ≤ 16
  eq : l2.map (·.2) = l1.map (·.2)
  a1 : ∀ x ∈ l1, AnsA w x
  a2 : ∀ x ∈ l2, AnsA w x
  k : ∃ κ, Kol lo w.heap.size κ c m q Op hx hm l1 l2
theorem Kol.grow {lo n n' : Nat} {κ : Nat → Nat} {c m q : Nat} {Op : Nat → Prop} {hx hm : Value} {l1 l2 : List Cr} (h : Kol lo n κ c m q Op hx hm l1 l2) (hn : n ≤ n') : Kol lo n' κ c m q Op hx hm l1 l2 :=
  ⟨h.k1, h.k2, h.k3, h.k4, h.k5, fun b hb => ⟨(h.lo b hb).1, Nat.lt_of_lt_of_le (h.lo b hb).2 hn⟩⟩
theorem isBlk.ex {v : Value} {b : Nat} (h : isBlk v b) : ∃ n c, v = .slice (some ⟨b, 0, none⟩) n c := h
theorem SlC.frameB {S : Nat → Prop} {w w' : World} {v : Value} {p : List Cr} (h : SlC w v p) (k : Fr S w w') (hb : ∀ b, isBlk v b → ¬ S b) : SlC w' v p := h.frame k (fun b n c e => hb b ⟨n, c, e⟩)
theorem Law.n2 {lo : Nat} {w : World} {p c m q : Nat} {Op : Nat → Prop} {hx hm : Value} {l1 l2 : List Cr} (H : Law lo w p c m q Op hx hm l1 l2) : l2.length = l1.length := by have := congrArg List.length H.eq; simpa using this
theorem Law.same {lo : Nat} {w w' : World} {p c m q : Nat} {Op : Nat → Prop} {hx hm : Value} {l1 l2 : List Cr} (H : Law lo w p c m q Op hx hm l1 l2) (k : Fr (fun _ => False) w w') : Law lo w' p c m q Op hx hm l1 l2 :=
  ⟨H.R.frame k (fun _ _ h => h), H.C.frame k (fun h => h), H.M.frame k (fun h => h) (fun h => h), H.nc, H.X.frameB k (fun _ _ h => h), H.Y.frameB k (fun _ _ h => h), H.n1, H.eq, fun x hx => (H.a1 x hx).frame k (fun _ _ h => h), fun x hx => (H.a2 x hx).frame k (fun _ _ h => h), by obtain ⟨κ, h⟩ := H.k; exact ⟨κ, h.grow k.size⟩⟩
theorem crC_spoil (x : Cr) (o : Nat) : crC (x.1, spoil x.2) o = crC x o := by
  unfold crC vV tV rV fV spoil
  simp only [List.length_replicate]
theorem bufC_last {p : List Cr} {x y : Cr} (h : ∀ o, crC y o = crC x o) (o : Nat) : bufC (p ++ [y]) o = bufC (p ++ [x]) o := by
  unfold bufC
  by_cases h1 : o / 10 < p.length
  · rw [List.getD_eq_getElem?_getD, List.getD_eq_getElem?_getD, List.getElem?_append_left h1, List.getElem?_append_left h1]
  · by_cases h2 : o / 10 = p.length
    · rw [h2]; simp [List.getD_eq_getElem?_getD, h]
    · rw [List.getD_eq_getElem?_getD, List.getD_eq_getElem?_getD, List.getElem?_eq_none (by simp; omega), List.getElem?_eq_none (by simp; omega)]
theorem SlC.last {w : World} {v : Value} {p : List Cr} {x y : Cr} (h : SlC w v (p ++ [x])) (e : ∀ o, crC y o = crC x o) : SlC w v (p ++ [y]) := by
  rcases h with ⟨_, h⟩ | ⟨b, cap, f, rfl, h1, h2, h3⟩
  · simp at h
  · exact .inr ⟨b, cap, f, by simp, by simpa using h1, h2, fun o ho => by rw [h3 o (by simpa using ho), bufC_last e]⟩
theorem inA_spoil (x : Cr) (b : Nat) : inA (x.1, spoil x.2) b ↔ inA x b := by
  have e : ∀ (a : Option Addr) (n n' c c' : Nat), isBlk (.slice a n c) b ↔ isBlk (.slice a n' c') b := fun a n n' c c' => ⟨fun h => by rw [isBlk_of h]; exact ⟨_, _, rfl⟩, fun h => by rw [isBlk_of h]; exact ⟨_, _, rfl⟩⟩
  unfold inA inB4 vV tV rV fV
  rw [e x.1.v _ x.2.ns.length _ x.2.ns.length, e x.1.t _ x.2.ty.length _ x.2.ty.length, e x.1.r _ x.2.rf.length _ x.2.rf.length, e x.1.f _ x.2.rs.length _ x.2.rs.length]
section
variable {lo : Nat} {w6 w7 w8 w9 w10 : World} {p c m q : Nat} {Op Op7 : Nat → Prop} {hx hm hx' hm' : Value} {l1 l2 : List Cr} {x1 x2 : Cr}
/-- A step of the script that calls both sides, as far as the two answers. -/
structure Got (lo : Nat) (w6 w7 w8 : World) (p c m q : Nat) (Op Op7 : Nat → Prop) (hx hm : Value) (l1 l2 : List Cr) (x1 x2 : Cr) : Prop where
  H : Law lo w6 p c m q Op hx hm l1 l2
  hlo : lo ≤ w6.heap.size
  R7 : RIx w7 p Op7
  hO : ∀ b, Op7 b → Op b ∨ w6.heap.size ≤ b
  C7 : CI w7 c p
  hc7 : ¬ Op7 c
  f7 : Fr (fun b => b = c ∨ Op b) w6 w7
  h1 : ∀ b, inA x1 b → w6.heap.size ≤ b ∧ ¬ Op7 b ∧ b ≠ c
  A1 : AnsA w7 x1
  f8 : Fr (fun _ => False) w7 w8
  A2 : AnsA w8 x2
  h2 : ∀ b, inA x2 b → w7.heap.size ≤ b
  e12 : x2.2 = x1.2
theorem Got.old (G : Got lo w6 w7 w8 p c m q Op Op7 hx hm l1 l2 x1 x2) : (∀ b, isBlk hx b → b < w6.heap.size) ∧ (∀ b, isBlk hm b → b < w6.heap.size) ∧ (∀ x, x ∈ l1 ∨ x ∈ l2 → ∀ b, inA x b → b < w6.heap.size) ∧ m < w6.heap.size ∧ q < w6.heap.size ∧ c < w6.heap.size :=
  ⟨fun _ hb => G.H.X.bk hb, fun _ hb => G.H.Y.bk hb, fun x hx _ hb => hx.elim (fun h => (G.H.a1 x h).lt hb) (fun h => (G.H.a2 x h).lt hb), G.H.M.b.lt, G.H.M.i.lt, G.H.C.lt⟩
theorem Got.fr8 (G : Got lo w6 w7 w8 p c m q Op Op7 hx hm l1 l2 x1 x2) : Fr (fun b => b = c ∨ Op b) w6 w8 := G.f7.trans G.f8 (fun _ _ h => h.elim)
/-- The lists of the law at the answers. -/
theorem Got.at8 (G : Got lo w6 w7 w8 p c m q Op Op7 hx hm l1 l2 x1 x2) : SlC w8 hx l1 ∧ SlC w8 hm l2 ∧ (∀ x, x ∈ l1 ∨ x ∈ l2 → AnsA w8 x) ∧ MCI w8 m q := by
  obtain ⟨κ, k⟩ := G.H.k
  refine ⟨G.H.X.frameB G.fr8 (fun b hb h => ?_), G.H.Y.frameB G.fr8 (fun b hb h => ?_), fun x hx => ?_, G.H.M.frame G.fr8 (fun h => ?_) (fun h => ?_)⟩
  · have := k.k1 b h; have := k.k3 b hb; omega
  · have := k.k1 b h; have := k.k4 b hb; omega
  · rcases hx with hx | hx
    · exact (G.H.a1 x hx).frame G.fr8 (fun b hb h => by have := k.k1 b h; have := k.k5 x (.inl hx) b hb; omega)
    · exact (G.H.a2 x hx).frame G.fr8 (fun b hb h => by have := k.k1 b h; have := k.k5 x (.inr hx) b hb; omega)
  · have := k.k1 _ h; have := k.k2 m (.inl rfl); omega
  · have := k.k1 _ h; have := k.k2 q (.inr rfl); omega
/-- Both answers are kept. -/
structure Kept (lo : Nat) (w6 w7 w8 w9 w10 : World) (p c m q : Nat) (Op Op7 : Nat → Prop) (hx hm hx' hm' : Value) (l1 l2 : List Cr) (x1 x2 : Cr) : Prop where
  G : Got lo w6 w7 w8 p c m q Op Op7 hx hm l1 l2 x1 x2
  S9 : SlC w9 hx' (keepQ l1 x1)
  f9 : Fr (isBlk hx) w8 w9
  b9 : ∀ b, isBlk hx' b → w8.heap.size ≤ b ∨ isBlk hx b
  S10 : SlC w10 hm' (keepQ l2 x2)
  f10 : Fr (isBlk hm) w9 w10
  b10 : ∀ b, isBlk hm' b → w9.heap.size ≤ b ∨ isBlk hm b
theorem Got.at9 (G : Got lo w6 w7 w8 p c m q Op Op7 hx hm l1 l2 x1 x2) (f9 : Fr (isBlk hx) w8 w9) : SlC w9 hm l2 := by
  obtain ⟨κ, k⟩ := G.H.k
  exact G.at8.2.1.frameB f9 (fun b hb h => by have := k.k3 b h; have := k.k4 b hb; omega)
theorem Kept.at10 (K : Kept lo w6 w7 w8 w9 w10 p c m q Op Op7 hx hm hx' hm' l1 l2 x1 x2) : SlC w10 hx' (keepQ l1 x1) ∧ (∀ x ∈ keepQ l1 x1, AnsA w10 x) ∧ (∀ x ∈ keepQ l2 x2, AnsA w10 x) ∧ AnsA w10 x1 ∧ AnsA w10 x2 ∧ MCI w10 m q ∧ Fr (fun b => isBlk hx b ∨ isBlk hm b) w8 w10 := by
  obtain ⟨κ, k⟩ := K.G.H.k
  have F : Fr (fun b => isBlk hx b ∨ isBlk hm b) w8 w10 := (K.f9.mono (S' := fun b => isBlk hx b ∨ isBlk hm b) (fun _ _ h => .inl h)).trans K.f10 (fun _ _ h => .inr h)
  obtain ⟨o1, o2, o3, o4, o5, o6⟩ := K.G.old
  have s6 := K.G.f7.size
  have s7 := K.G.f8.size
  have X1 : AnsA w10 x1 := ((K.G.A1).frame K.G.f8 (fun _ _ h => h)).frame F (fun b hb h => by
    have := (K.G.h1 b hb).1
    rcases h with h | h
    · have := o1 b h; omega
    · have := o2 b h; omega)
  have X2 : AnsA w10 x2 := K.G.A2.frame F (fun b hb h => by
    have := K.G.h2 b hb
    rcases h with h | h
    · have := o1 b h; omega
    · have := o2 b h; omega)
  have old : ∀ x, x ∈ l1 ∨ x ∈ l2 → AnsA w10 x := fun x hx => (K.G.at8.2.2.1 x hx).frame F (fun b hb h => by
    have := k.k5 x hx b hb
    rcases h with h | h
    · have := k.k3 b h; omega
    · have := k.k4 b h; omega)
  refine ⟨K.S9.frameB K.f10 (fun b hb h => ?_), fun x hx => ?_, fun x hx => ?_, X1, X2, K.G.at8.2.2.2.frame F (fun h => ?_) (fun h => ?_), F⟩
  · rcases K.b9 b hb with h' | h'
    · have := o2 b h; omega
    · have := k.k3 b h'; have := k.k4 b h; omega
  · rcases keepQ_mem hx with h | rfl
    · exact old x (.inl h)
    · exact X1
  · rcases keepQ_mem hx with h | rfl
    · exact old x (.inr h)
    · exact X2
  · have := k.k2 m (.inl rfl)
    rcases h with h | h
    · have := k.k3 _ h; omega
    · have := k.k4 _ h; omega
  · have := k.k2 q (.inr rfl)
    rcases h with h | h
    · have := k.k3 _ h; omega
    · have := k.k4 _ h; omega
/-- Both answers are spoilt: the law goes on. -/
theorem Kept.next {w12 w13 w14 : World} (K : Kept lo w6 w7 w8 w9 w10 p c m q Op Op7 hx hm hx' hm' l1 l2 x1 x2) (f12 : Fr (fun _ => False) w10 w12) (A13 : AnsA w13 (x1.1, spoil x1.2)) (f13 : Fr (inA x1) w12 w13) (A14 : AnsA w14 (x2.1, spoil x2.2)) (f14 : Fr (inA x2) w13 w14) :
    Law lo w14 p c m q Op7 hx' hm' (keepQ l1 (x1.1, spoil x1.2)) (keepQ l2 (x2.1, spoil x2.2)) ∧ Fr (fun b => lo ≤ b) w6 w14 := by
  obtain ⟨κ, k⟩ := K.G.H.k
  obtain ⟨o1, o2, o3, o4, o5, o6⟩ := K.G.old
  obtain ⟨S10, n1, n2, X1, X2, M10, F10⟩ := K.at10
  have s6 := K.G.f7.size
  have s7 := K.G.f8.size
  have s8 := K.f9.size
  have s9 := K.f10.size
  have i1 : ∀ b, inA x1 b → w6.heap.size ≤ b ∧ b < w7.heap.size := fun b hb => ⟨(K.G.h1 b hb).1, K.G.A1.lt hb⟩
  have i2 : ∀ b, inA x2 b → w7.heap.size ≤ b ∧ b < w8.heap.size := fun b hb => ⟨K.G.h2 b hb, K.G.A2.lt hb⟩
  have F14 : Fr (fun b => inA x1 b ∨ inA x2 b) w10 w14 := ((f12.mono (S' := fun b => inA x1 b ∨ inA x2 b) (fun _ _ h => h.elim)).trans f13 (fun _ _ h => .inl h)).trans f14 (fun _ _ h => .inr h)
  have s14 := F14.size
  have FF : Fr (fun b => isBlk hx b ∨ isBlk hm b ∨ inA x1 b ∨ inA x2 b) w8 w14 := (F10.mono (S' := fun b => isBlk hx b ∨ isBlk hm b ∨ inA x1 b ∨ inA x2 b) (fun _ _ h => h.elim .inl (fun h => .inr (.inl h)))).trans F14 (fun _ _ h => .inr (.inr h))
  have rl : ∀ b, Op7 b → b < w7.heap.size := by obtain ⟨_, _, _, _, H⟩ := K.G.R7; exact H.lt
  have nO : ∀ b, Op7 b ∨ b = c → ¬ (isBlk hx b ∨ isBlk hm b ∨ inA x1 b ∨ inA x2 b) := fun b hb h => by
    have hb' : (b = c ∨ Op b) ∨ (w6.heap.size ≤ b ∧ Op7 b) := by
      rcases hb with hb | hb
      · rcases K.G.hO b hb with h' | h'
        · exact .inl (.inr h')
        · exact .inr ⟨h', hb⟩
      · exact .inl (.inl hb)
    rcases h with h | h | h | h
    · rcases hb' with hb' | ⟨hb', _⟩
      · have := k.k1 b hb'; have := k.k3 b h; omega
      · have := o1 b h; omega
    · rcases hb' with hb' | ⟨hb', _⟩
      · have := k.k1 b hb'; have := k.k4 b h; omega
      · have := o2 b h; omega
    · rcases hb with hb | hb
      · exact (K.G.h1 b h).2.1 hb
      · exact (K.G.h1 b h).2.2 hb
    · have := i2 b h
      rcases hb with hb | hb
      · have := rl b hb; omega
      · omega
  have hx'l : ∀ b, isBlk hx' b → b < w9.heap.size := fun b hb => K.S9.bk hb
  have hm'l : ∀ b, isBlk hm' b → b < w10.heap.size := fun b hb => K.S10.bk hb
  have nX : ∀ b, isBlk hx' b → ¬ (inA x1 b ∨ inA x2 b) := fun b hb h => by
    have h3 : w6.heap.size ≤ b ∧ b < w8.heap.size := by
      rcases h with h | h
      · have := i1 b h; omega
      · have := i2 b h; omega
    rcases K.b9 b hb with h' | h'
    · omega
    · have := o1 b h'; omega
  have nY : ∀ b, isBlk hm' b → ¬ (inA x1 b ∨ inA x2 b) := fun b hb h => by
    have h3 : w6.heap.size ≤ b ∧ b < w8.heap.size := by
      rcases h with h | h
      · have := i1 b h; omega
      · have := i2 b h; omega
    rcases K.b10 b hb with h' | h'
    · omega
    · have := o2 b h'; omega
  have lk1 := keepQ_len l1 (x1.1, spoil x1.2) K.G.H.n1
  have oldA : ∀ x, x ∈ l1 ∨ x ∈ l2 → AnsA w14 x := fun x hx => (K.G.at8.2.2.1 x hx).frame FF (fun b hb h => by
    have := k.k5 x hx b hb
    have := o3 x hx b hb
    rcases h with h | h | h | h
    · have := k.k3 b h; omega
    · have := k.k4 b h; omega
    · have := i1 b h; omega
    · have := i2 b h; omega)
  have A13' : AnsA w14 (x1.1, spoil x1.2) := A13.frame f14 (fun b hb h => by
    have := i1 b ((inA_spoil x1 b).1 hb)
    have := i2 b h
    omega)
  refine ⟨⟨(K.G.R7.frame K.G.f8 (fun _ _ h => h)).frame FF (fun b hb h => nO b (.inl hb) h), (K.G.C7.frame K.G.f8 (fun h => h)).frame FF (fun h => nO c (.inr rfl) h), K.G.at8.2.2.2.frame FF (fun h => ?_) (fun h => ?_), K.G.hc7, ?_, ?_, lk1.1, keepQ_map _ _ _ _ K.G.H.eq (by simp [K.G.e12]), fun x hx => ?_, fun x hx => ?_, ?_⟩, ?_⟩
  · have := k.k2 m (.inl rfl)
    rcases h with h | h | h | h
    · have := k.k3 _ h; omega
    · have := k.k4 _ h; omega
    · have := i1 _ h; omega
    · have := i2 _ h; omega
  · have := k.k2 q (.inr rfl)
    rcases h with h | h | h | h
    · have := k.k3 _ h; omega
    · have := k.k4 _ h; omega
    · have := i1 _ h; omega
    · have := i2 _ h; omega
  · exact SlC.last (S10.frameB F14 (fun b hb h => nX b hb h)) (crC_spoil x1)
  · exact SlC.last (K.S10.frameB F14 (fun b hb h => nY b hb h)) (crC_spoil x2)
  · rcases keepQ_mem hx with h | rfl
    · exact oldA x (.inl h)
    · exact A13'
  · rcases keepQ_mem hx with h | rfl
    · exact oldA x (.inr h)
    · exact A14
  · classical
    refine ⟨fun b => if b < w6.heap.size then κ b else if Op7 b then 1 else if inA x1 b ∨ inA x2 b then 5 else if isBlk hx' b then 3 else if isBlk hm' b then 4 else 0, fun b hb => ?_, fun b hb => ?_, fun b hb => ?_, fun b hb => ?_, fun x hx b hb => ?_, fun b hb => ?_⟩
    · try simp only
      split
      · rename_i hlt
        rcases hb with hb | hb
        · exact k.k1 b (.inl hb)
        · rcases K.G.hO b hb with h | h
          · exact k.k1 b (.inr h)
          · omega
      · rename_i hlt
        rcases hb with hb | hb
        · omega
        · rw [if_pos hb]
    · try simp only
      rw [if_pos (by omega)]
      exact k.k2 b hb
    · try simp only
      split
      · rcases K.b9 b hb with h | h
        · omega
        · exact k.k3 b h
      · rename_i hlt
        rcases K.b9 b hb with h | h
        · rw [if_neg (fun h' => by have := rl b h'; omega), if_neg (nX b hb)]
          try rw [if_pos hb]
        · have := o1 b h; omega
    · try simp only
      split
      · rcases K.b10 b hb with h | h
        · omega
        · exact k.k4 b h
      · rename_i hlt
        rcases K.b10 b hb with h | h
        · rw [if_neg (fun h' => by have := rl b h'; omega), if_neg (nY b hb), if_neg (fun h' => by have := hx'l b h'; omega)]
          try rw [if_pos hb]
        · have := o2 b h; omega
    · try simp only
      have new1 : inA x1 b → (if b < w6.heap.size then κ b else if Op7 b then 1 else if inA x1 b ∨ inA x2 b then 5 else if isBlk hx' b then 3 else if isBlk hm' b then 4 else 0) = 5 := fun h => by
        have := i1 b h
        rw [if_neg (by omega), if_neg (K.G.h1 b h).2.1, if_pos (.inl h)]
      have new2 : inA x2 b → (if b < w6.heap.size then κ b else if Op7 b then 1 else if inA x1 b ∨ inA x2 b then 5 else if isBlk hx' b then 3 else if isBlk hm' b then 4 else 0) = 5 := fun h => by
        have := i2 b h
        rw [if_neg (by omega), if_neg (fun h' => by have := rl b h'; omega), if_pos (.inr h)]
      have oldK : ∀ y, y ∈ l1 ∨ y ∈ l2 → inA y b → (if b < w6.heap.size then κ b else if Op7 b then 1 else if inA x1 b ∨ inA x2 b then 5 else if isBlk hx' b then 3 else if isBlk hm' b then 4 else 0) = 5 := fun y hy h => by
        rw [if_pos (o3 y hy b h)]
        exact k.k5 y hy b h
      rcases hx with hx | hx
      · rcases keepQ_mem hx with h | rfl
        · exact oldK x (.inl h) hb
        · exact new1 ((inA_spoil x1 b).1 hb)
      · rcases keepQ_mem hx with h | rfl
        · exact oldK x (.inr h) hb
        · exact new2 ((inA_spoil x2 b).1 hb)
    · try simp only at hb
      have hlo := K.G.hlo
      split at hb
      · have := k.lo b hb; omega
      · rename_i hlt
        have : b < w10.heap.size := by
          split at hb
          · rename_i h; have := rl b h; omega
          · split at hb
            · rename_i h
              rcases h with h | h
              · have := i1 b h; omega
              · have := i2 b h; omega
            · split at hb
              · rename_i h; have := hx'l b h; omega
              · split at hb
                · rename_i h; exact hm'l b h
                · exact absurd rfl hb
        omega
  · refine (K.G.fr8.mono (S' := fun b => lo ≤ b) (fun b _ h => (k.lo b (by have := k.k1 b h; omega)).1)).trans FF (fun b hb h => ?_)
    have hlo := K.G.hlo
    rcases h with h | h | h | h
    · exact (k.lo b (by have := k.k3 b h; omega)).1
    · exact (k.lo b (by have := k.k4 b h; omega)).1
    · have := i1 b h; omega
    · have := i2 b h; omega
end
end Go.Proofs.Qxb6500276aGreat
