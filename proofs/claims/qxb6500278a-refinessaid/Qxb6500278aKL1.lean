/- The law: the commands on both sides. -/
import Derived.Test.Qxb6500278aKM10
import Derived.Test.Qxb6500278aKM6
import Derived.Test.Qxb6500278aKM4
import Derived.Test.Qxb6500278aKM4a
import Derived.Test.Qxb6500278aKW11
namespace Go.Proofs.Qxb6500278a
open Go Go.RowKit

/-- Both sides in memory, alike. -/
structure HLaw (w : World) (h m : Nat) (S : HS) (M : MS) (O : Nat → Prop) (N : Nat) : Prop where
  hm : HM w h S
  mm : MM w m M O
  rel : Rel S M
  ap : ¬ O h
  tn : S.turns ≤ N
def RoomR (al : Prop) (S S' : HS) : Prop := (S'.turns = S.turns ∧ S'.base = S.base ∧ S'.free = S.free) ∨ (al ∧ ((S'.turns = S.turns ∧ S'.base = S.base ∧ S.free ≤ S'.free) ∨ (S'.turns = S.turns + 1 ∧ S'.free = S'.base + S'.gh.live)))
def Step (w : World) (h m : Nat) (S : HS) (O : Nat → Prop) (N : Nat) (al : Prop) (w' : World) : Prop :=
  ∃ S' M' O', HLaw w' h m S' M' O' (N + 1) ∧ (∀ c, O' c → O c ∨ w.heap.size ≤ c) ∧ Fr (fun c => c = h ∨ O c) w w' ∧ RoomR al S S'
section
variable {w w1 w2 w' : World} {h m : Nat} {S S' : HS} {M M' : MS} {O : Nat → Prop} {N : Nat} {al : Prop}
theorem HLaw.same (L : HLaw w h m S M O N) (k : Fr (fun _ => False) w w') : HLaw w' h m S M O N := ⟨L.hm.frame k (fun h => h), L.mm.same k, L.rel, L.ap, L.tn⟩
theorem HLaw.step (L : HLaw w h m S M O N) (H1 : HM w1 h S') (f1 : Fr (OnlyH h) w w1) (H2 : MM w2 m M' (Gw O w1 w2)) (f2 : Fr O w1 w2) (r : Rel S' M') (hr : RoomR al S S') : Step w h m S O N al w2 := by
  have hl := L.hm.lt
  have s1 := f1.size
  refine ⟨S', M', _, ⟨H1.frame f2 L.ap, H2, r, fun hc => ?_, ?_⟩, fun c hc => ?_, (f1.mono (fun c _ hc => .inl hc)).trans f2 (fun c _ hc => .inr hc), hr⟩
  · rcases hc with hc | hc
    · exact L.ap hc
    · omega
  · have := L.tn
    rcases hr with h | ⟨_, h | h⟩ <;> omega
  · rcases hc with hc | hc
    · exact .inl hc
    · exact .inr (by omega)
theorem Step.same (L : HLaw w h m S M O N) (k : Fr (fun _ => False) w w') : Step w h m S O N al w' :=
  ⟨S, M, O, ⟨L.hm.frame k (fun h => h), L.mm.same k, L.rel, L.ap, by have := L.tn; omega⟩, fun _ hc => .inl hc, k.mono (fun _ _ h => h.elim), .inl ⟨rfl, rfl, rfl⟩⟩
theorem HLaw.mv (L : HLaw w h m S M O N) (f1 : Fr (OnlyH h) w w1) : MM w1 m M O := L.mm.frame f1 (fun c hc e => L.ap (by rw [← show c = h from e]; exact hc))
theorem HLaw.t24 (L : HLaw w h m S M O N) : M.rt.length ≤ 24 := by rw [L.rel.len]; exact L.rel.top
theorem HLaw.inv (L : HLaw w h m S M O N) : ∃ os, HInv S os := by obtain ⟨P, os, hI, _⟩ := L.rel.all; exact ⟨os, hI⟩
theorem pushN_room (S : HS) : RoomR False S (pushN S).2 := by
  refine .inl ?_
  unfold pushN
  repeat' split
  all_goals exact ⟨rfl, rfl, rfl⟩
set_option maxHeartbeats 1000000 in
theorem samePush (L : HLaw w h m S M O N) : Calls Try.prog 35 #[.pointer (some ⟨h, 0, none⟩), .pointer (some ⟨m, 0, none⟩)] w fun e w' => e = .returned (.bool true) ∧ Step w h m S O N False w' := by
  obtain ⟨hE, hR⟩ := L.rel.push
  go_enter Try.func35, Try.ntmps35
  go_wp2_with fail
  refine (pushF L.hm L.rel.top).mono ?_
  rintro v w1 ⟨rfl, H1, f1⟩
  rw [hE]
  have V1 := L.mv f1
  go_wp2_with fail
  refine (pushMF V1).mono ?_
  rintro v w2 ⟨rfl, H2, f2⟩
  generalize (pushM M).1 = er
  have st := L.step H1 f1 H2 f2 hR (pushN_room S)
  go_wp2_with fail
  go_ret
  exact ⟨rfl, st⟩
theorem popN_room (S : HS) (x : Int) : RoomR False S (popN S x).2 := by
  refine .inl ?_
  unfold popN
  repeat' split
  all_goals exact ⟨rfl, rfl, rfl⟩
set_option maxHeartbeats 1000000 in
theorem samePop (L : HLaw w h m S M O N) (x : Int) : Calls Try.prog 37 #[.pointer (some ⟨h, 0, none⟩), .pointer (some ⟨m, 0, none⟩), .int .i64 x] w fun e w' => e = .returned (.bool true) ∧ Step w h m S O N False w' := by
  obtain ⟨hE, hR⟩ := L.rel.pop x
  go_enter Try.func37, Try.ntmps37
  go_wp2_with fail
  refine (popF L.hm L.rel.top x).mono ?_
  rintro v w1 ⟨rfl, H1, f1⟩
  rw [hE]
  have V1 := L.mv f1
  go_wp2_with fail
  refine (popMF V1 L.t24 x).mono ?_
  rintro v w2 ⟨rfl, H2, f2⟩
  generalize (popM M x).1 = er
  have st := L.step H1 f1 H2 f2 hR (popN_room S x)
  go_wp2_with fail
  go_ret
  exact ⟨rfl, st⟩
theorem slideN_room (S : HS) (x : Int) : RoomR False S (slideN S x).2 := by
  refine .inl ?_
  unfold slideN
  repeat' split
  all_goals exact ⟨rfl, rfl, rfl⟩
set_option maxHeartbeats 1000000 in
theorem sameSlide (L : HLaw w h m S M O N) (x : Int) : Calls Try.prog 38 #[.pointer (some ⟨h, 0, none⟩), .pointer (some ⟨m, 0, none⟩), .int .i64 x] w fun e w' => e = .returned (.bool true) ∧ Step w h m S O N False w' := by
  obtain ⟨hE, hR⟩ := L.rel.slide x
  go_enter Try.func38, Try.ntmps38
  go_wp2_with fail
  refine (slideF L.hm L.rel.top x).mono ?_
  rintro v w1 ⟨rfl, H1, f1⟩
  rw [hE]
  have V1 := L.mv f1
  go_wp2_with fail
  refine (slideMF V1 L.t24 x).mono ?_
  rintro v w2 ⟨rfl, H2, f2⟩
  generalize (slideM M x).1 = er
  have st := L.step H1 f1 H2 f2 hR (slideN_room S x)
  go_wp2_with fail
  go_ret
  exact ⟨rfl, st⟩
theorem dupN_room (S : HS) (x : Int) : RoomR False S (dupN S x).2 := by
  refine .inl ?_
  unfold dupN
  repeat' split
  all_goals exact ⟨rfl, rfl, rfl⟩
set_option maxHeartbeats 1000000 in
theorem sameDup (L : HLaw w h m S M O N) (x : Int) : Calls Try.prog 39 #[.pointer (some ⟨h, 0, none⟩), .pointer (some ⟨m, 0, none⟩), .int .i64 x] w fun e w' => e = .returned (.bool true) ∧ Step w h m S O N False w' := by
  obtain ⟨hE, hR⟩ := L.rel.dup x
  go_enter Try.func39, Try.ntmps39
  go_wp2_with fail
  refine (dupF L.hm L.rel.top x).mono ?_
  rintro v w1 ⟨rfl, H1, f1⟩
  rw [hE]
  have V1 := L.mv f1
  go_wp2_with fail
  refine (dupMF V1 L.t24 x).mono ?_
  rintro v w2 ⟨rfl, H2, f2⟩
  generalize (dupM M x).1 = er
  have st := L.step H1 f1 H2 f2 hR (dupN_room S x)
  go_wp2_with fail
  go_ret
  exact ⟨rfl, st⟩
theorem setN_room (S : HS) (x : Int) : RoomR False S (setN S x).2 := by
  refine .inl ?_
  unfold setN
  repeat' split
  all_goals exact ⟨rfl, rfl, rfl⟩
set_option maxHeartbeats 1000000 in
theorem sameSet (L : HLaw w h m S M O N) (x : Int) : Calls Try.prog 40 #[.pointer (some ⟨h, 0, none⟩), .pointer (some ⟨m, 0, none⟩), .int .i64 x] w fun e w' => e = .returned (.bool true) ∧ Step w h m S O N False w' := by
  obtain ⟨hE, hR⟩ := L.rel.set x
  go_enter Try.func40, Try.ntmps40
  go_wp2_with fail
  refine (setF L.hm L.rel.top x).mono ?_
  rintro v w1 ⟨rfl, H1, f1⟩
  rw [hE]
  have V1 := L.mv f1
  go_wp2_with fail
  refine (setMF V1 L.t24 x).mono ?_
  rintro v w2 ⟨rfl, H2, f2⟩
  generalize (setM M x).1 = er
  have st := L.step H1 f1 H2 f2 hR (setN_room S x)
  go_wp2_with fail
  go_ret
  exact ⟨rfl, st⟩
theorem stIntN_room (S : HS) (x y z : Int) : RoomR False S (stIntN S x y z).2 := by
  refine .inl ?_
  unfold stIntN
  repeat' split
  all_goals exact ⟨rfl, rfl, rfl⟩
set_option maxHeartbeats 1000000 in
theorem sameStInt (L : HLaw w h m S M O N) (x y z : Int) : Calls Try.prog 43 #[.pointer (some ⟨h, 0, none⟩), .pointer (some ⟨m, 0, none⟩), .int .i64 x, .int .i64 y, .int .i64 z] w fun e w' => e = .returned (.bool true) ∧ Step w h m S O N False w' := by
  obtain ⟨os, hI⟩ := L.inv
  obtain ⟨hE, hR⟩ := L.rel.stInt x y z
  go_enter Try.func43, Try.ntmps43
  go_wp2_with fail
  refine (storeIntF L.hm hI x y z).mono ?_
  rintro v w1 ⟨rfl, H1, f1⟩
  rw [hE]
  have V1 := L.mv f1
  go_wp2_with fail
  refine (stIntMF V1 L.rel.mi L.t24 x y z).mono ?_
  rintro v w2 ⟨rfl, H2, f2⟩
  generalize (stIntM M x y z).1 = er
  have st := L.step H1 f1 H2 f2 hR (stIntN_room S x y z)
  go_wp2_with fail
  go_ret
  exact ⟨rfl, st⟩
theorem ldRefN_room (S : HS) (x y z : Int) : RoomR False S (ldRefN S x y z).2 := by
  refine .inl ?_
  unfold ldRefN
  repeat' split
  all_goals exact ⟨rfl, rfl, rfl⟩
set_option maxHeartbeats 1000000 in
theorem sameLdRef (L : HLaw w h m S M O N) (x y z : Int) : Calls Try.prog 44 #[.pointer (some ⟨h, 0, none⟩), .pointer (some ⟨m, 0, none⟩), .int .i64 x, .int .i64 y, .int .i64 z] w fun e w' => e = .returned (.bool true) ∧ Step w h m S O N False w' := by
  obtain ⟨os, hI⟩ := L.inv
  obtain ⟨hE, hR⟩ := L.rel.ldRef x y z
  go_enter Try.func44, Try.ntmps44
  go_wp2_with fail
  refine (loadRefF L.hm hI x y z).mono ?_
  rintro v w1 ⟨rfl, H1, f1⟩
  rw [hE]
  have V1 := L.mv f1
  go_wp2_with fail
  refine (ldRefMF V1 L.rel.mi L.t24 x y z).mono ?_
  rintro v w2 ⟨rfl, H2, f2⟩
  generalize (ldRefM M x y z).1 = er
  have st := L.step H1 f1 H2 f2 hR (ldRefN_room S x y z)
  go_wp2_with fail
  go_ret
  exact ⟨rfl, st⟩
theorem stRefN_room (S : HS) (x y z : Int) : RoomR False S (stRefN S x y z).2 := by
  refine .inl ?_
  unfold stRefN
  repeat' split
  all_goals exact ⟨rfl, rfl, rfl⟩
set_option maxHeartbeats 1000000 in
theorem sameStRef (L : HLaw w h m S M O N) (x y z : Int) : Calls Try.prog 45 #[.pointer (some ⟨h, 0, none⟩), .pointer (some ⟨m, 0, none⟩), .int .i64 x, .int .i64 y, .int .i64 z] w fun e w' => e = .returned (.bool true) ∧ Step w h m S O N False w' := by
  obtain ⟨os, hI⟩ := L.inv
  obtain ⟨hE, hR⟩ := L.rel.stRef x y z
  go_enter Try.func45, Try.ntmps45
  go_wp2_with fail
  refine (storeRefF L.hm hI x y z).mono ?_
  rintro v w1 ⟨rfl, H1, f1⟩
  rw [hE]
  have V1 := L.mv f1
  go_wp2_with fail
  refine (stRefMF V1 L.rel.mi L.t24 x y z).mono ?_
  rintro v w2 ⟨rfl, H2, f2⟩
  generalize (stRefM M x y z).1 = er
  have st := L.step H1 f1 H2 f2 hR (stRefN_room S x y z)
  go_wp2_with fail
  go_ret
  exact ⟨rfl, st⟩
set_option maxHeartbeats 1000000 in
theorem sameAlloc (L : HLaw w h m S M O N) (hN : N ≤ 1000000000000000000) (x y : Int) : Calls Try.prog 36 #[.pointer (some ⟨h, 0, none⟩), .pointer (some ⟨m, 0, none⟩), .int .i64 x, .int .i64 y] w fun e w' => e = .returned (.bool true) ∧ Step w h m S O N True w' := by
  obtain ⟨os, hI⟩ := L.inv
  go_enter Try.func36, Try.ntmps36
  go_wp2_with fail
  refine (allocF L.hm hI (Nat.le_trans L.tn hN) x y).mono ?_
  rintro v w1 ⟨er, S', rfl, hA, H1, f1⟩
  obtain ⟨hE, hR⟩ := L.rel.alloc hA
  have V1 := L.mv f1
  go_wp2_with fail
  refine (allocMF V1 L.rel.mi L.t24 x y).mono ?_
  rintro v w2 ⟨rfl, H2, f2⟩
  rw [← hE]
  have st : Step w h m S O N True w2 := L.step H1 f1 H2 f2 hR (.inr ⟨trivial, hA.room⟩)
  clear hE hA
  go_wp2_with fail
  go_ret
  exact ⟨rfl, st⟩
set_option maxHeartbeats 1000000 in
theorem sameLen (L : HLaw w h m S M O N) (x : Int) : Calls Try.prog 41 #[.pointer (some ⟨h, 0, none⟩), .pointer (some ⟨m, 0, none⟩), .int .i64 x] w fun e w' => e = .returned (.bool true) ∧ Fr (fun _ => False) w w' := by
  obtain ⟨os, hI⟩ := L.inv
  go_enter Try.func41, Try.ntmps41
  go_wp2_with fail
  refine (lenFn L.hm hI x).mono ?_
  rintro v w1 ⟨rfl, rfl⟩
  rw [L.rel.lenF x]
  go_wp2_with fail
  refine (lenMF L.mm L.rel.mi L.t24 x).mono ?_
  rintro v w2 ⟨rfl, f2⟩
  generalize (lenM M x).1 = e1
  generalize (lenM M x).2.1 = e2
  generalize (lenM M x).2.2 = e3
  go_wp2_with fail
  go_ret
  exact ⟨rfl, f2⟩
set_option maxHeartbeats 1000000 in
theorem sameLdInt (L : HLaw w h m S M O N) (x y : Int) : Calls Try.prog 42 #[.pointer (some ⟨h, 0, none⟩), .pointer (some ⟨m, 0, none⟩), .int .i64 x, .int .i64 y] w fun e w' => e = .returned (.bool true) ∧ w' = w := by
  obtain ⟨os, hI⟩ := L.inv
  go_enter Try.func42, Try.ntmps42
  go_wp2_with fail
  refine (loadIntF L.hm hI x y).mono ?_
  rintro v w1 ⟨rfl, rfl⟩
  rw [L.rel.ldInt x y]
  go_wp2_with fail
  refine (ldIntMF L.mm L.rel.mi L.t24 x y).mono ?_
  rintro v w2 ⟨rfl, rfl⟩
  generalize (ldIntM M x y).1 = e1
  generalize (ldIntM M x y).2 = e2
  go_wp2_with fail
  go_ret
  exact ⟨rfl, rfl⟩
set_option maxHeartbeats 1000000 in
theorem sameDepth (L : HLaw w h m S M O N) : Calls Try.prog 22 #[.pointer (some ⟨h, 0, none⟩), .pointer (some ⟨m, 0, none⟩)] w fun e w' => e = .returned (.bool true) ∧ w' = w := by
  have hl := L.rel.len
  go_enter Try.func22, Try.ntmps22
  go_wp2_with fail
  refine (depthF L.hm).mono ?_
  rintro v w1 ⟨rfl, rfl⟩
  rw [← hl]
  clear hl
  go_wp2_with fail
  refine (depthMF L.mm).mono ?_
  rintro v w2 ⟨rfl, rfl⟩
  go_wp2_with fail
  go_ret
  exact ⟨rfl, rfl⟩
set_option maxHeartbeats 1000000 in
theorem sameLive (L : HLaw w h m S M O N) : Calls Try.prog 23 #[.pointer (some ⟨h, 0, none⟩), .pointer (some ⟨m, 0, none⟩)] w fun e w' => e = .returned (.bool true) ∧ Fr (fun _ => False) w w' := by
  obtain ⟨os, hI⟩ := L.inv
  go_enter Try.func23, Try.ntmps23
  go_wp2_with fail
  refine (liveF L.hm hI).mono ?_
  rintro v w1 ⟨rfl, H1, f1⟩
  rw [L.rel.live]
  go_wp2_with fail
  obtain ⟨ov, rv, f, V⟩ := L.mm.same f1
  refine (liveMF V L.rel.mi L.t24).mono ?_
  rintro v w2 ⟨rfl, _, f2⟩
  generalize M.gh.live = e1
  go_wp2_with fail
  go_ret
  exact ⟨rfl, f1.trans f2 (fun _ _ h => h)⟩
set_option maxHeartbeats 1000000 in
theorem within (L : HLaw w h m S M O N) : Calls Try.prog 27 #[.pointer (some ⟨h, 0, none⟩), .pointer (some ⟨m, 0, none⟩)] w fun e w' => e = .returned (.bool true) ∧ Fr (fun _ => False) w w' := by
  obtain ⟨os, hI⟩ := L.inv
  obtain ⟨l1, l2, l3⟩ := hI.le96
  obtain ⟨r1, r2⟩ := L.rel.within
  have hlv := L.rel.live
  go_enter Try.func27, Try.ntmps27
  go_wp2_with fail
  refine (freeF L.hm l2 l1).mono ?_
  rintro v w1 ⟨rfl, H1, f1⟩
  go_wp2_with fail
  obtain ⟨ov, rv, f, V⟩ := L.mm.same f1
  refine (liveMF V L.rel.mi L.t24).mono ?_
  rintro v w2 ⟨rfl, _, f2⟩
  rw [← hlv]
  clear hlv
  go_wp2_with fail
  refine (turnsF (H1.frame f2 (fun h => h))).mono ?_
  rintro v w3 ⟨rfl, rfl⟩
  have q1 : (0 : Int) ≤ (S.base : Int) + 48 - S.free := by omega
  have q3 : (S.gh.live : Int) ≤ 48 := by omega
  have q2 : (S.base : Int) + 48 - S.free ≤ 48 - (S.gh.live : Nat) := by omega
  have q4 : (0 : Int) ≤ S.turns := by omega
  generalize (S.base : Int) + 48 - S.free = ef at q1 q2 ⊢
  generalize S.gh.live = el at q2 q3 ⊢
  clear r1 r2
  go_wp2_with fail
  go_ret
  exact ⟨rfl, f1.trans f2 (fun _ _ h => h)⟩
end
end Go.Proofs.Qxb6500278a
