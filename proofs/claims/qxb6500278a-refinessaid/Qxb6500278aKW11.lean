/- The real heap: Check, New. -/
import Derived.Test.Qxb6500278aKW10
import Derived.Deep.QuietTactic
import Derived.BigQuiet
namespace Go.Proofs.Qxb6500278a
open Go Go.RowKit

/-- The marked heads. -/
structure HD (w : World) (b : Nat) (l : List Int) : Prop where
  blk : ∃ f, Blk w b 96 f ∧ (∀ o, o < 96 → ∃ v, f o = .bool v) ∧ ∀ x ∈ l, f x.toNat = .bool true
section
variable {w w' : World} {b : Nat} {l : List Int}
theorem HD.lt (h : HD w b l) : b < w.heap.size := by obtain ⟨f, hb, _⟩ := h; exact hb.lt
theorem HD.any (h : HD w b l) {o : Nat} (ho : o < 96) : ∃ v, w.cell? ⟨b, o, none⟩ = some (.bool v) := by
  obtain ⟨f, hb, h1, _⟩ := h
  obtain ⟨v, hv⟩ := h1 o ho
  exact ⟨v, by rw [hb.cell ho, hv]⟩
theorem HD.at (h : HD w b l) {o : Nat} (ho : o < 96) (hm : (o : Int) ∈ l) : w.cell? ⟨b, o, none⟩ = some (.bool true) := by
  obtain ⟨f, hb, _, h2⟩ := h
  have := h2 _ hm
  simp only [Int.toNat_natCast] at this
  rw [hb.cell ho, this]
theorem HD.frozen (h : HD w b l) (o : Nat) : w.frozen? ⟨b, o, none⟩ = false := by obtain ⟨f, hb, _⟩ := h; exact hb.frozen o
theorem HD.frame {S : Nat → Prop} (h : HD w b l) (k : Fr S w w') (hn : ¬ S b) : HD w' b l := by
  obtain ⟨f, hb, h2⟩ := h; exact ⟨f, hb.frame k hn, h2⟩
theorem HD.mark (h : HD w b l) (o : Nat) : HD (w.setCell ⟨b, o, none⟩ (.bool true)) b (l ++ [(o : Int)]) := by
  obtain ⟨f, hb, h1, h2⟩ := h
  refine ⟨_, hb.set o (.bool true), fun k hk => ?_, fun x hx => ?_⟩
  · simp only [upd]; split
    · exact ⟨_, rfl⟩
    · exact h1 k hk
  · simp only [upd]
    rcases List.mem_append.1 hx with hx | hx
    · split
      · rfl
      · exact h2 x hx
    · simp at hx
      subst hx
      simp
theorem z96 : (#[.bool false, .bool false, .bool false, .bool false, .bool false, .bool false, .bool false, .bool false, .bool false, .bool false, .bool false, .bool false, .bool false, .bool false, .bool false, .bool false, .bool false, .bool false, .bool false, .bool false, .bool false, .bool false, .bool false, .bool false, .bool false, .bool false, .bool false, .bool false, .bool false, .bool false, .bool false, .bool false, .bool false, .bool false, .bool false, .bool false, .bool false, .bool false, .bool false, .bool false, .bool false, .bool false, .bool false, .bool false, .bool false, .bool false, .bool false, .bool false, .bool false, .bool false, .bool false, .bool false, .bool false, .bool false, .bool false, .bool false, .bool false, .bool false, .bool false, .bool false, .bool false, .bool false, .bool false, .bool false, .bool false, .bool false, .bool false, .bool false, .bool false, .bool false, .bool false, .bool false, .bool false, .bool false, .bool false, .bool false, .bool false, .bool false, .bool false, .bool false, .bool false, .bool false, .bool false, .bool false, .bool false, .bool false, .bool false, .bool false, .bool false, .bool false, .bool false, .bool false, .bool false, .bool false, .bool false, .bool false] : Array Value) = Array.replicate 96 (.bool false) := by kernel_rfl
theorem HD.new (w : World) : HD (w.alloc (.cells #[.bool false, .bool false, .bool false, .bool false, .bool false, .bool false, .bool false, .bool false, .bool false, .bool false, .bool false, .bool false, .bool false, .bool false, .bool false, .bool false, .bool false, .bool false, .bool false, .bool false, .bool false, .bool false, .bool false, .bool false, .bool false, .bool false, .bool false, .bool false, .bool false, .bool false, .bool false, .bool false, .bool false, .bool false, .bool false, .bool false, .bool false, .bool false, .bool false, .bool false, .bool false, .bool false, .bool false, .bool false, .bool false, .bool false, .bool false, .bool false, .bool false, .bool false, .bool false, .bool false, .bool false, .bool false, .bool false, .bool false, .bool false, .bool false, .bool false, .bool false, .bool false, .bool false, .bool false, .bool false, .bool false, .bool false, .bool false, .bool false, .bool false, .bool false, .bool false, .bool false, .bool false, .bool false, .bool false, .bool false, .bool false, .bool false, .bool false, .bool false, .bool false, .bool false, .bool false, .bool false, .bool false, .bool false, .bool false, .bool false, .bool false, .bool false, .bool false, .bool false, .bool false, .bool false, .bool false, .bool false] 75)) w.heap.size [] := by
  have hb := Blk.new w (Array.replicate 96 (.bool false)) 75 (fun _ => .bool false) (fun o ho => by simp at ho; simp [ho])
  rw [z96]
  simp only [Array.size_replicate] at hb
  exact ⟨⟨_, hb, fun k _ => ⟨false, rfl⟩, fun x hx => by simp at hx⟩⟩
set_option maxHeartbeats 1000000 in
theorem soundF (D : HD w b l) {x : Int} (hx : x = -1 ∨ (x ∈ l ∧ 0 ≤ x ∧ x < 96)) : Calls Try.prog 52 #[.pointer (some ⟨b, 0, none⟩), .int .i64 x] w fun e w' => e = .returned (.bool true) ∧ w' = w := by
  have hlt := D.lt
  rcases hx with rfl | ⟨hm, h0, h1⟩
  · go_enter Try.func52, Try.ntmps52
    go_wp2_with fail
    go_ret
    exact ⟨rfl, rfl⟩
  · obtain ⟨o, rfl⟩ := Int.eq_ofNat_of_zero_le h0
    have c := D.at (o := o) (by omega) hm
    have hne : ((o : Int) == -1) = false := by simp
    have ho : o < 96 := by omega
    clear hm h0
    go_enter Try.func52, Try.ntmps52
    go_wp2_with fail
    go_ret
    exact ⟨rfl, rfl⟩
end
theorem Row.lt_inv {m : Nat → Int} {a e : Nat} {os : List Int} (h : Row m a e os) (hl : a < e) : ∃ os', os = (a : Int) :: os' ∧ 0 ≤ m a ∧ Row m (a + wdO m a) e os' := by
  cases h with
  | nil => omega
  | cons h0 hr => exact ⟨_, rfl, h0, hr⟩
theorem Row.eq_inv {m : Nat → Int} {a e : Nat} {os : List Int} (h : Row m a e os) (hl : ¬ a < e) : os = [] ∧ a = e := by
  cases h with
  | nil => exact ⟨rfl, rfl⟩
  | cons h0 hr => have := hr.le; have := wdO_pos m a; omega
set_option maxRecDepth 100000 in
set_option maxHeartbeats 16000000 in
theorem checkHF {w : World} {h : Nat} {S : HS} {os : List Int} (H : HM w h S) (hI : HInv S os) :
    Calls Try.prog 26 #[.pointer (some ⟨h, 0, none⟩)] w fun e w' => e = .returned (.bool true) ∧ HM w' h S ∧ Fr (fun _ => False) w w' := by
  have hlt := H.lt
  have hbase := hI.base
  have htop := hI.top
  have hle := hI.le
  have hrl := hI.row.le
  have h96 := hI.le96.1
  have c1 := H.base
  have c2 := H.free
  have c3 := H.top
  have c4 := H.turns
  have k0 := ((Fr.refl (fun _ => False) w).drew).alloc (.cells #[.bool false, .bool false, .bool false, .bool false, .bool false, .bool false, .bool false, .bool false, .bool false, .bool false, .bool false, .bool false, .bool false, .bool false, .bool false, .bool false, .bool false, .bool false, .bool false, .bool false, .bool false, .bool false, .bool false, .bool false, .bool false, .bool false, .bool false, .bool false, .bool false, .bool false, .bool false, .bool false, .bool false, .bool false, .bool false, .bool false, .bool false, .bool false, .bool false, .bool false, .bool false, .bool false, .bool false, .bool false, .bool false, .bool false, .bool false, .bool false, .bool false, .bool false, .bool false, .bool false, .bool false, .bool false, .bool false, .bool false, .bool false, .bool false, .bool false, .bool false, .bool false, .bool false, .bool false, .bool false, .bool false, .bool false, .bool false, .bool false, .bool false, .bool false, .bool false, .bool false, .bool false, .bool false, .bool false, .bool false, .bool false, .bool false, .bool false, .bool false, .bool false, .bool false, .bool false, .bool false, .bool false, .bool false, .bool false, .bool false, .bool false, .bool false, .bool false, .bool false, .bool false, .bool false, .bool false, .bool false] 75)
  have D0 : HD (w.drew.alloc (.cells #[.bool false, .bool false, .bool false, .bool false, .bool false, .bool false, .bool false, .bool false, .bool false, .bool false, .bool false, .bool false, .bool false, .bool false, .bool false, .bool false, .bool false, .bool false, .bool false, .bool false, .bool false, .bool false, .bool false, .bool false, .bool false, .bool false, .bool false, .bool false, .bool false, .bool false, .bool false, .bool false, .bool false, .bool false, .bool false, .bool false, .bool false, .bool false, .bool false, .bool false, .bool false, .bool false, .bool false, .bool false, .bool false, .bool false, .bool false, .bool false, .bool false, .bool false, .bool false, .bool false, .bool false, .bool false, .bool false, .bool false, .bool false, .bool false, .bool false, .bool false, .bool false, .bool false, .bool false, .bool false, .bool false, .bool false, .bool false, .bool false, .bool false, .bool false, .bool false, .bool false, .bool false, .bool false, .bool false, .bool false, .bool false, .bool false, .bool false, .bool false, .bool false, .bool false, .bool false, .bool false, .bool false, .bool false, .bool false, .bool false, .bool false, .bool false, .bool false, .bool false, .bool false, .bool false, .bool false, .bool false] 75)) w.heap.size [] := HD.new w.drew
  have Hk0 : Hid (_ ∧ _ ∧ _) := ⟨D0, H.frame k0 (fun h => h), k0⟩
  clear D0 k0
  obtain ⟨b, hb⟩ : ∃ b, w.heap.size = b := ⟨_, rfl⟩
  have hhb : h < b := by omega
  rw [hb] at Hk0
  have hz : ∀ x ∈ os, 0 ≤ x ∧ x < 96 := fun x hx => by
    obtain ⟨k, rfl, h1, _⟩ := hI.row.hd h96 hx
    omega
  rcases hbase with hB | hB
  all_goals
    have t1 : ¬ ((S.free : Int) < S.base) := by omega
    have t2 : ¬ ((S.base : Int) + 48 < S.free) := by omega
    rw [hB] at c1 t1 t2
    have HB : Hid _ := hB
    clear hB
    go_enter Try.func26, Try.ntmps26
    go_wp2_with fail
    refine wp_region_text (by kernel_rfl) (by kernel_rfl) ?_
    go_wp2_with fail
    refine ⟨by kernel_rfl, ?_⟩
    go_wp2_with fail
    have Hb : Hid _ := hb
    clear hb
    go_loopg [4] os.length (fun g kv wr => ∃ a done rest, kv = .int .i64 (a : Nat) ∧ Row S.mem a S.free rest ∧ os = done ++ rest ∧ rest.length = g ∧ HD wr b done ∧ HM wr h S ∧ Fr (fun _ => False) w wr)
    case atStart => exact ⟨S.base, [], os, by rw [HB.out]; rfl, hI.row, rfl, rfl, Hk0.out.1, Hk0.out.2.1, Hk0.out.2.2⟩
    case round =>
      clear Hk0 H c1 c2 c3 c4 hlt t1 t2
      obtain ⟨a, done, rest, rfl, hr, hos, hg, D, H, hfr⟩ := hrel
      have hg' : rest.length = gk := hg
      have Hos : Hid _ := hos
      clear hg hos
      have hlt := H.lt
      have hld := D.lt
      have c2 := H.free
      have hal := hr.le
      by_cases ha : a < S.free
      · obtain ⟨os', hos', h0, hr'⟩ := hr.lt_inv ha
        have hal' := hr'.le
        have hwd : wdO S.mem a = 1 + (S.mem a).toNat / 49 + (S.mem a).toNat % 49 := rfl
        have hsm : S.mem a < 1000000 := by omega
        have hW := fun w => words_any (S.mem a) h0 hsm w
        rw [← hwd] at hW
        have ca := H.mem (o := a) (by omega)
        obtain ⟨v0, cd⟩ := D.any (o := a) (by omega)
        have z := D.frozen a
        have ha' : (a : Int) < S.free := by omega
        have ha96 : a < 96 := by omega
        have hno : ¬ ((S.free : Int) - a < (wdO S.mem a : Nat)) := by omega
        have hadd : a + wdO S.mem a ≤ 96 := by omega
        have key := D.mark a
        have keyF := (hfr.setC b a (.bool true) (fun hb' => by have := Hb.out; omega))
        have key2 := key
        have keyH := H.frame (((Fr.refl (fun c => c = b) wr).setC b a (.bool true) (fun _ => rfl))) (by omega)
        have d1 : decide (S.mem a < 0) = false := decide_eq_false (by omega)
        have d2 : decide ((S.free : Int) - a < (wdO S.mem a : Nat)) = false := decide_eq_false hno
        have Hk2 : Hid (_ ∧ _ ∧ _) := ⟨key2, keyH, keyF⟩
        have Hos2 : Hid (os = (done ++ [(a : Int)]) ++ os') := by show _ = _; rw [Hos.out, hos']; simp
        have hlen : os'.length + 1 = gk := by rw [← hg', hos']; simp
        clear key key2 keyF keyH hwd hos' hg' D H hfr hal hal' Hos hr
        go_wp2_with fail
        go_quiet (first | (go_at_call 51; refine Calls.quiet_of_same (hW _)))
        go_wp2_with fail
        refine (hW _).mono ?_
        rintro e w3 ⟨rfl, rfl⟩
        go_wp2_with fail
        go_roundg (gk - 1)
        case measure => omega
        case rel => exact ⟨a + wdO S.mem a, _, os', by simp, hr', Hos2.out, by omega, Hk2.out.1.frame ((Fr.refl (fun _ => False) _).drewN _) (fun h => h), Hk2.out.2.1.frame ((Fr.refl (fun _ => False) _).drewN _) (fun h => h), Hk2.out.2.2.drewN _⟩
      · obtain ⟨hnil, hae⟩ := hr.eq_inv ha
        have ha' : ¬ ((a : Int) < S.free) := by omega
        have hdone : done = os := by rw [Hos.out, hnil]; simp
        subst hdone
        clear hnil hae Hos hg' hr hal
        go_wp2_with fail
        go_loopg [6] S.top (fun g kv wr => ∃ i : Nat, kv = .int .i64 i ∧ i + g = S.top ∧ HD wr b done ∧ HM wr h S ∧ Fr (fun _ => False) w wr)
        case atStart => exact ⟨0, rfl, by omega, D, H, hfr⟩
        case round =>
          clear D H hfr c2 hlt hld
          obtain ⟨i, rfl, hig, D, H, hfr⟩ := hrel
          have hig' : i + gk = S.top := hig
          clear hig
          have hlt := H.lt
          have c3 := H.top
          by_cases hi : i < S.top
          · have hi' : (i : Int) < S.top := by omega
            have cr := H.root (i := i) (by omega)
            have SF := soundF D (x := S.roots i) ((hI.rts i hi).imp id (fun hm => ⟨hm, hz _ hm⟩))
            go_wp2_with fail
            refine SF.mono ?_
            rintro e w2 ⟨rfl, rfl⟩
            go_wp2_with fail
            go_roundg (gk - 1)
            case measure => omega
            case rel => exact ⟨i + 1, by simp, by omega, D, H, hfr⟩
          · have hi' : ¬ ((i : Int) < S.top) := by omega
            have cb := H.base
            rw [HB.out] at cb
            clear hig'
            go_wp2_with fail
            go_loopg [4] done.length (fun g kv wr => ∃ a rest, kv = .int .i64 (a : Nat) ∧ Row S.mem a S.free rest ∧ (∀ x ∈ rest, x ∈ done) ∧ rest.length = g ∧ HD wr b done ∧ HM wr h S ∧ Fr (fun _ => False) w wr)
            case atStart => exact ⟨S.base, done, by rw [HB.out]; rfl, hI.row, fun _ h => h, rfl, D, H, hfr⟩
            case round =>
              clear D H hfr hlt c3 cb
              obtain ⟨a, rest, rfl, hr, hsub, hg, D, H, hfr⟩ := hrel
              have hg' : rest.length = gk := hg
              clear hg
              obtain ⟨g0, hg0⟩ : ∃ g0, gk = g0 := ⟨_, rfl⟩
              have hlt := H.lt
              have c2 := H.free
              have hal := hr.le
              by_cases ha : a < S.free
              · obtain ⟨os', hos', h0, hr'⟩ := hr.lt_inv ha
                have hal' := hr'.le
                have hwd : wdO S.mem a = 1 + (S.mem a).toNat / 49 + (S.mem a).toNat % 49 := rfl
                have hsm : S.mem a < 1000000 := by omega
                have hW := fun w => words_any (S.mem a) h0 hsm w
                have hRf := fun w => refs_any (S.mem a) h0 hsm w
                rw [← hwd] at hW
                have e3 : (S.mem a).toNat / 49 = nrO S.mem a := rfl
                rw [e3] at hRf hwd
                have ca := H.mem (o := a) (by omega)
                have ha' : (a : Int) < S.free := by omega
                have ha96 : a < 96 := by omega
                have hadd : a + wdO S.mem a ≤ 96 := by omega
                have hnr : nrO S.mem a + 1 ≤ wdO S.mem a := by omega
                have hin : (a : Int) ∈ done := hsub _ (by rw [hos']; simp)
                have hlen : os'.length + 1 = g0 := by rw [← hg0, ← hg', hos']; simp
                have hsub' : ∀ x ∈ os', x ∈ done := fun x hx => hsub x (by rw [hos']; simp [hx])
                clear hwd e3 hos' hg' hr hal hal' hsub
                go_wp2_with fail
                refine (hRf _).mono ?_
                rintro e w2 ⟨rfl, rfl⟩
                go_wp2_with fail
                go_loopg [8] (nrO S.mem a) (fun g kv wr => ∃ j : Nat, kv = .int .i64 ((j + 1 : Nat) : Int) ∧ j + g = nrO S.mem a ∧ HD wr b done ∧ HM wr h S ∧ Fr (fun _ => False) w wr)
                case atStart => exact ⟨0, rfl, by omega, D, H, hfr⟩
                case round =>
                  clear D H hfr hlt c2 ca
                  obtain ⟨j, rfl, hjg, D, H, hfr⟩ := hrel
                  have hjg' : j + gk = nrO S.mem a := hjg
                  clear hjg
                  have hlt := H.lt
                  by_cases hj : j < nrO S.mem a
                  · have hj' : ((j + 1 : Nat) : Int) ≤ nrO S.mem a := by omega
                    have cm := H.mem (o := a + (j + 1)) (by omega)
                    have hs96 : a + (j + 1) < 96 := by omega
                    have hxo : S.mem (a + (j + 1)) = -1 ∨ S.mem (a + (j + 1)) ∈ done := hI.cl a hin _ (List.mem_map.2 ⟨j, List.mem_range.2 (by simpa using hj), by simp only [Int.toNat_natCast]; congr 1; omega⟩)
                    have SF := soundF D (hxo.imp id (fun hm => ⟨hm, hz _ hm⟩))
                    clear hxo
                    go_wp2_with fail
                    refine SF.mono ?_
                    rintro e w2 ⟨rfl, rfl⟩
                    go_wp2_with fail
                    go_roundg (gk - 1)
                    case measure => omega
                    case rel => exact ⟨j + 1, by simp, by omega, D, H, hfr⟩
                  · have hj' : ¬ (((j + 1 : Nat) : Int) ≤ nrO S.mem a) := by omega
                    have ca := H.mem (o := a) ha96
                    clear hjg'
                    go_wp2_with fail
                    refine (hW _).mono ?_
                    rintro e w2 ⟨rfl, rfl⟩
                    go_wp2_with fail
                    go_roundg (g0 - 1)
                    case measure => omega
                    case rel => exact ⟨a + wdO S.mem a, os', by simp, hr', hsub', by omega, D, H, hfr⟩
              · have ha' : ¬ ((a : Int) < S.free) := by omega
                go_wp2_with fail
                go_ret
                exact ⟨rfl, H, hfr⟩
def hs0 : HS := ⟨fun _ => 0, 0, 0, fun _ => 0, 0, 0⟩
theorem z124 : (#[.int .i64 0, .int .i64 0, .int .i64 0, .int .i64 0, .int .i64 0, .int .i64 0, .int .i64 0, .int .i64 0, .int .i64 0, .int .i64 0, .int .i64 0, .int .i64 0, .int .i64 0, .int .i64 0, .int .i64 0, .int .i64 0, .int .i64 0, .int .i64 0, .int .i64 0, .int .i64 0, .int .i64 0, .int .i64 0, .int .i64 0, .int .i64 0, .int .i64 0, .int .i64 0, .int .i64 0, .int .i64 0, .int .i64 0, .int .i64 0, .int .i64 0, .int .i64 0, .int .i64 0, .int .i64 0, .int .i64 0, .int .i64 0, .int .i64 0, .int .i64 0, .int .i64 0, .int .i64 0, .int .i64 0, .int .i64 0, .int .i64 0, .int .i64 0, .int .i64 0, .int .i64 0, .int .i64 0, .int .i64 0, .int .i64 0, .int .i64 0, .int .i64 0, .int .i64 0, .int .i64 0, .int .i64 0, .int .i64 0, .int .i64 0, .int .i64 0, .int .i64 0, .int .i64 0, .int .i64 0, .int .i64 0, .int .i64 0, .int .i64 0, .int .i64 0, .int .i64 0, .int .i64 0, .int .i64 0, .int .i64 0, .int .i64 0, .int .i64 0, .int .i64 0, .int .i64 0, .int .i64 0, .int .i64 0, .int .i64 0, .int .i64 0, .int .i64 0, .int .i64 0, .int .i64 0, .int .i64 0, .int .i64 0, .int .i64 0, .int .i64 0, .int .i64 0, .int .i64 0, .int .i64 0, .int .i64 0, .int .i64 0, .int .i64 0, .int .i64 0, .int .i64 0, .int .i64 0, .int .i64 0, .int .i64 0, .int .i64 0, .int .i64 0, .int .i64 0, .int .i64 0, .int .i64 0, .int .i64 0, .int .i64 0, .int .i64 0, .int .i64 0, .int .i64 0, .int .i64 0, .int .i64 0, .int .i64 0, .int .i64 0, .int .i64 0, .int .i64 0, .int .i64 0, .int .i64 0, .int .i64 0, .int .i64 0, .int .i64 0, .int .i64 0, .int .i64 0, .int .i64 0, .int .i64 0, .int .i64 0, .int .i64 0, .int .i64 0, .int .i64 0, .int .i64 0] : Array Value) = Array.replicate 124 (.int .i64 0) := by kernel_rfl
theorem HM.new (w : World) : HM (w.alloc (.cells #[.int .i64 0, .int .i64 0, .int .i64 0, .int .i64 0, .int .i64 0, .int .i64 0, .int .i64 0, .int .i64 0, .int .i64 0, .int .i64 0, .int .i64 0, .int .i64 0, .int .i64 0, .int .i64 0, .int .i64 0, .int .i64 0, .int .i64 0, .int .i64 0, .int .i64 0, .int .i64 0, .int .i64 0, .int .i64 0, .int .i64 0, .int .i64 0, .int .i64 0, .int .i64 0, .int .i64 0, .int .i64 0, .int .i64 0, .int .i64 0, .int .i64 0, .int .i64 0, .int .i64 0, .int .i64 0, .int .i64 0, .int .i64 0, .int .i64 0, .int .i64 0, .int .i64 0, .int .i64 0, .int .i64 0, .int .i64 0, .int .i64 0, .int .i64 0, .int .i64 0, .int .i64 0, .int .i64 0, .int .i64 0, .int .i64 0, .int .i64 0, .int .i64 0, .int .i64 0, .int .i64 0, .int .i64 0, .int .i64 0, .int .i64 0, .int .i64 0, .int .i64 0, .int .i64 0, .int .i64 0, .int .i64 0, .int .i64 0, .int .i64 0, .int .i64 0, .int .i64 0, .int .i64 0, .int .i64 0, .int .i64 0, .int .i64 0, .int .i64 0, .int .i64 0, .int .i64 0, .int .i64 0, .int .i64 0, .int .i64 0, .int .i64 0, .int .i64 0, .int .i64 0, .int .i64 0, .int .i64 0, .int .i64 0, .int .i64 0, .int .i64 0, .int .i64 0, .int .i64 0, .int .i64 0, .int .i64 0, .int .i64 0, .int .i64 0, .int .i64 0, .int .i64 0, .int .i64 0, .int .i64 0, .int .i64 0, .int .i64 0, .int .i64 0, .int .i64 0, .int .i64 0, .int .i64 0, .int .i64 0, .int .i64 0, .int .i64 0, .int .i64 0, .int .i64 0, .int .i64 0, .int .i64 0, .int .i64 0, .int .i64 0, .int .i64 0, .int .i64 0, .int .i64 0, .int .i64 0, .int .i64 0, .int .i64 0, .int .i64 0, .int .i64 0, .int .i64 0, .int .i64 0, .int .i64 0, .int .i64 0, .int .i64 0, .int .i64 0, .int .i64 0, .int .i64 0] 51)) w.heap.size hs0 := by
  have hb := Blk.new w (Array.replicate 124 (.int .i64 0)) 51 (fun _ => .int .i64 0) (fun o ho => by simp at ho; simp [ho])
  rw [z124]
  simp only [Array.size_replicate] at hb
  exact hb.congr fun o _ => by simp [ints, hInt, hs0]
def rootsN (i : Nat) : Nat → Int := fun o => if o < i then -1 else 0
theorem rootsN_succ (i : Nat) : upd (rootsN i) i (-1) = rootsN (i + 1) := by
  funext o; simp only [upd, rootsN]
  by_cases e : o = i
  · subst e; simp
  · rw [if_neg e]
    by_cases h : o < i
    · rw [if_pos h, if_pos (by omega)]
    · rw [if_neg h, if_neg (by omega)]
def hsNew : HS := { hs0 with roots := rootsN 24 }
theorem hsNew_inv : HInv hsNew [] := ⟨.inl rfl, .nil 0, by simp [hsNew, hs0], by simp [hsNew, hs0], fun i hi => by simp [hsNew, hs0] at hi, fun a ha => by cases ha⟩
set_option maxRecDepth 100000 in
set_option maxHeartbeats 4000000 in
theorem newHF (w : World) : Calls Try.prog 8 #[] w fun e w' => e = .returned (.pointer (some ⟨w.heap.size, 0, none⟩)) ∧ HM w' w.heap.size hsNew ∧ Fr (fun _ => False) w w' := by
  have k0 := (Fr.refl (fun _ => False) w).alloc (.cells #[.int .i64 0, .int .i64 0, .int .i64 0, .int .i64 0, .int .i64 0, .int .i64 0, .int .i64 0, .int .i64 0, .int .i64 0, .int .i64 0, .int .i64 0, .int .i64 0, .int .i64 0, .int .i64 0, .int .i64 0, .int .i64 0, .int .i64 0, .int .i64 0, .int .i64 0, .int .i64 0, .int .i64 0, .int .i64 0, .int .i64 0, .int .i64 0, .int .i64 0, .int .i64 0, .int .i64 0, .int .i64 0, .int .i64 0, .int .i64 0, .int .i64 0, .int .i64 0, .int .i64 0, .int .i64 0, .int .i64 0, .int .i64 0, .int .i64 0, .int .i64 0, .int .i64 0, .int .i64 0, .int .i64 0, .int .i64 0, .int .i64 0, .int .i64 0, .int .i64 0, .int .i64 0, .int .i64 0, .int .i64 0, .int .i64 0, .int .i64 0, .int .i64 0, .int .i64 0, .int .i64 0, .int .i64 0, .int .i64 0, .int .i64 0, .int .i64 0, .int .i64 0, .int .i64 0, .int .i64 0, .int .i64 0, .int .i64 0, .int .i64 0, .int .i64 0, .int .i64 0, .int .i64 0, .int .i64 0, .int .i64 0, .int .i64 0, .int .i64 0, .int .i64 0, .int .i64 0, .int .i64 0, .int .i64 0, .int .i64 0, .int .i64 0, .int .i64 0, .int .i64 0, .int .i64 0, .int .i64 0, .int .i64 0, .int .i64 0, .int .i64 0, .int .i64 0, .int .i64 0, .int .i64 0, .int .i64 0, .int .i64 0, .int .i64 0, .int .i64 0, .int .i64 0, .int .i64 0, .int .i64 0, .int .i64 0, .int .i64 0, .int .i64 0, .int .i64 0, .int .i64 0, .int .i64 0, .int .i64 0, .int .i64 0, .int .i64 0, .int .i64 0, .int .i64 0, .int .i64 0, .int .i64 0, .int .i64 0, .int .i64 0, .int .i64 0, .int .i64 0, .int .i64 0, .int .i64 0, .int .i64 0, .int .i64 0, .int .i64 0, .int .i64 0, .int .i64 0, .int .i64 0, .int .i64 0, .int .i64 0, .int .i64 0, .int .i64 0, .int .i64 0, .int .i64 0] 51)
  have H0 := HM.new w
  have Hk0 : Hid (_ ∧ _) := ⟨H0, k0⟩
  clear H0 k0
  obtain ⟨b, hb⟩ : ∃ b, w.heap.size = b := ⟨_, rfl⟩
  rw [hb] at Hk0 ⊢
  go_enter Try.func8, Try.ntmps8
  go_wp2_with fail
  have Hb : Hid _ := hb
  clear hb
  go_loopg [2] 24 (fun g kv wr => ∃ i : Nat, kv = .int .i64 i ∧ i + g = 24 ∧ HM wr b { hs0 with roots := rootsN i } ∧ Fr (fun _ => False) w wr)
  case atStart => exact ⟨0, rfl, by omega, Hk0.out.1, Hk0.out.2⟩
  case round =>
    clear Hk0
    obtain ⟨i, rfl, hig, H, hfr⟩ := hrel
    have hig' : i + gk = 24 := hig
    clear hig
    have hlt := H.lt
    by_cases hi : i < 24
    · have hi' : (i : Int) < 24 := by omega
      have cr := H.root hi
      have z := Blk.frozen H (98 + i)
      have key := H.setRoot hi (-1)
      simp only at key
      rw [rootsN_succ] at key
      have keyF := hfr.setC b (98 + i) (.int .i64 (-1)) (fun hb' => by have := Hb.out; omega)
      have Hk2 : Hid (_ ∧ _) := ⟨key, keyF⟩
      clear key keyF H hfr
      go_wp2_with fail
      go_roundg (gk - 1)
      case measure => omega
      case rel => exact ⟨i + 1, by simp, by omega, Hk2.out.1, Hk2.out.2⟩
    · have hin : i = 24 := by omega
      subst hin
      go_wp2_with fail
      go_ret
      exact ⟨rfl, H, hfr⟩
end Go.Proofs.Qxb6500278a
