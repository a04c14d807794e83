/- The real checker: New. -/
import Derived.Test.Qxb6500276aGreatCB6
namespace Go.Proofs.Qxb6500276aGreat
open Go Go.RowKit

theorem Blk.newAny (w : World) (c : Array Value) (T : TypeId) : Blk (w.alloc (.cells c T)) w.heap.size c.size (fun o => c[o]?.getD undef) := Blk.new w c T _ fun o ho => by simp [ho]
set_option maxRecDepth 100000 in
set_option maxHeartbeats 8000000 in
theorem newC (w : World) (p : Nat) : Calls Tryz.prog 8 #[.pointer (some ⟨p, 0, none⟩)] w fun e w' => ∃ c, e = .returned (.pointer (some ⟨c, 0, none⟩)) ∧ CI w' c p ∧ w.heap.size ≤ c ∧ Fr (fun _ => False) w w' := by
  go_enter Tryz.func8, Tryz.ntmps8
  go_wp2_with fail
  generalize hw : World.alloc _ _ = w1
  have key : ∃ f, Blk w1 w.heap.size 420 f ∧ f 0 = .pointer (some ⟨p, 0, none⟩) ∧ f 415 = .slice none 0 0 ∧ f 416 = .slice none 0 0 ∧ f 417 = .slice none 0 0 := by
    rw [← hw]
    exact ⟨_, Blk.newAny w _ _, rfl, rfl, rfl, rfl⟩
  have F1 : Fr (fun _ => False) w w1 := by rw [← hw]; exact (Fr.refl _ _).alloc _
  obtain ⟨f, B, h0, h1, h2, h3⟩ := key
  clear hw
  have K := clearC B h0
  have hl := B.lt
  refine K.mono ?_
  rintro e w2 ⟨rfl, ⟨f2, B2, R2, e1, e2, e3⟩, F2⟩
  have HR : Hid (CI w2 w.heap.size p) := ⟨f2, _, _, _, _, _, B2, R2 [] [], by rw [e1, h1], by rw [e2, h2], by rw [e3, h3], Good.fresh0 (blank [] []), ⟨[], XOk.nil []⟩, fun i hi => by cases hi⟩
  have HF : Hid (Fr (fun _ => False) w w2) := F1.trans (F2.mono (S' := fun d => d = w.heap.size) (fun _ _ h => h)) (fun d hd e => by omega)
  clear B2 R2 e1 e2 e3 F2 F1 K B h0 h1 h2 h3
  go_wp2_with fail
  go_ret
  exact ⟨_, rfl, HR.out, Nat.le_refl _, HF.out⟩
end Go.Proofs.Qxb6500276aGreat
