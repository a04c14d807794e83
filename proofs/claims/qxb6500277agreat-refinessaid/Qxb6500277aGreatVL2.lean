/- The law: observers of both machines (written by genVL2.py). -/
import Derived.Test.Qxb6500277aGreatVL1
import Derived.Test.Qxb6500277aGreatKW10
import Derived.Test.Qxb6500277aGreatKW11
import Derived.Test.Qxb6500277aGreatKM6
import Derived.Test.Qxb6500277aGreatKM10
namespace Go.Proofs.Qxb6500277aGreat
open Go Go.RowKit

theorem LVi.ki {w : World} {v : Value} {p : List Int} (h : LVi w v p) : KiAt w v p := by
  obtain ⟨b, f, rfl, hb, hf⟩ := h
  exact .inr ⟨b, _, f, rfl, Nat.le_refl _, hb, hf⟩
theorem LVi.frame {S : Nat → Prop} {w w' : World} {v : Value} {p : List Int} (h : LVi w v p) (k : Fr S w w') (hb : ∀ b, isB v b → ¬ S b) : LVi w' v p := by
  obtain ⟨b, f, rfl, hbk, hf⟩ := h
  exact ⟨b, f, rfl, hbk.frame k (hb b ⟨_, _, rfl⟩), hf⟩
theorem flat_le (S : HS) (L : List Int) : ∀ l : List Int, (l.flatMap (objD S L)).length ≤ 2 * wdL S.mem l
  | [] => by simp [wdL]
  | x :: l => by
    have ih := flat_le S L l
    have e : wdL S.mem (x :: l) = wdO S.mem x.toNat + wdL S.mem l := by simp [wdL]
    have e2 : (objD S L x).length = 2 + nrO S.mem x.toNat + niO S.mem x.toNat := by simp [objD, rfO_len, itO_len]; omega
    simp only [List.flatMap_cons, List.length_append]
    rw [e, e2]
    unfold wdO
    omega
theorem HInv.dlen {S : HS} {os : List Int} (hI : HInv S os) : 0 < S.gh.dump.length ∧ S.gh.dump.length ≤ 2000 := by
  have h1 := hI.live
  have h2 := hI.le
  have h3 := hI.top
  have h4 := gh_live S
  have h5 := flat_le S S.gh.ord S.gh.ord
  have h6 : (Go.Proofs.Qxb6500277aGreat.rts S S.top).length = S.top := by simp [Go.Proofs.Qxb6500277aGreat.rts]
  rw [dump_eq]
  simp only [List.length_append, List.length_map, List.length_singleton]
  omega
theorem Rel.dumps {S : HS} {M : MS} (h : Rel S M) : S.gh.dump = M.gh.dump := by
  obtain ⟨P, os, hI, hs, _⟩ := h.all
  exact hs.dump
theorem new_rel : Rel hsNew ⟨[], []⟩ := by
  refine ⟨⟨fun _ _ => False, [], hsNew_inv, ⟨⟨fun _ _ h => h.elim, fun _ _ _ _ h => h.elim⟩, ?_, fun _ _ h => h.elim⟩, fun _ _ h => h.elim⟩, ⟨by simp, by simp, by simp, by simp⟩⟩
  simp only [HS.gh, MS.gh, hsNew, hs0, List.range_zero, List.map_nil]
  exact .nil
section
variable {w w' : World} {mv : Value} {n : Nat} {f : Nat → Value}
theorem MnA.frame {F : Nat → Prop} (H : MnA w mv n f) (k : Fr F w w') (h1 : ∀ c, isB mv c ∨ (∃ j, j < n ∧ isB (f j) c) → ¬ F c) : MnA w' mv n f :=
  ⟨H.le, H.os.frame k (fun c hc => h1 c (.inl hc)), fun j hj => (H.st j hj).frame k (fun c hc => h1 c (.inr ⟨j, hj, hc⟩))⟩
theorem MnA.lt (H : MnA w mv n f) {c : Nat} (hc : isB mv c ∨ ∃ j, j < n ∧ isB (f j) c) : c < w.heap.size := by
  rcases hc with hc | ⟨j, hj, hc⟩
  · exact H.os.bk hc
  · exact (H.st j hj).bk hc
end
def mC3 (hm : Nat) (s t : Int) (o : Nat) : Value := match o with | 0 => .pointer (some ⟨hm, 0, none⟩) | 1 => .int .i64 s | _ => .int .i64 t
/-- The model machine between two runs. -/
structure MX (w : World) (m hm : Nat) (M : MS) (s t : Int) (O : Nat → Prop) : Prop where
  blk : Blk w m 3 (mC3 hm s t)
  mm : MM w hm M O
  nm : ¬ O m
section
variable {w w' : World} {m hm h : Nat} {M : MS} {s t : Int} {O F : Nat → Prop} {S : HS}
theorem MX.frame (H : MX w m hm M s t O) (k : Fr F w w') (h1 : ¬ F m) (h2 : ∀ c, O c → ¬ F c) : MX w' m hm M s t O := ⟨H.blk.frame k h1, H.mm.frame k h2, H.nm⟩
theorem MX.same (H : MX w m hm M s t O) (k : Fr (fun _ => False) w w') : MX w' m hm M s t O := H.frame k (fun h => h) (fun _ _ h => h)
theorem MX.lt (H : MX w m hm M s t O) : m < w.heap.size ∧ ∀ c, O c → c < w.heap.size := by
  obtain ⟨ov, rv, f, V⟩ := H.mm
  exact ⟨H.blk.lt, V.lt⟩
theorem MX.oh (H : MX w m hm M s t O) : O hm := by
  obtain ⟨ov, rv, f, V⟩ := H.mm
  exact V.om
end
end Go.Proofs.Qxb6500277aGreat
