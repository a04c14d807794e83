import Derived.Test.Qxb6500282aF18
namespace Go.Proofs.Qxb6500282a
open Go Go.RowKit

set_option maxRecDepth 100000 in
set_option maxHeartbeats 8000000 in
theorem sameAny_fresh {w : World} {lo x m db : Nat} {kv : Value} {K : List In} {s : DS} {pv : Value} {p : List In} (h : LawW w lo x m db kv K s pv p) (hm : ∃ f, Blk w m 3 f ∧ f 0 = .int .i64 0) (str : ByteArray) (from_ : Int)
    (h1 : s.built < 999999999999980000) (h2 : s.flushes < 999999999999980000) (h3 : s.worked < 999999999999980000) :
    Calls Try.prog 16 #[.pointer (some ⟨x, 0, none⟩), .pointer (some ⟨m, 0, none⟩), .slice none 0 0, pv, .string str, .int .i64 from_] w fun e w' => e = .returned (.tuple #[.bool true, .int .i64 (dErr p str from_)]) ∧ SameS w w' lo x m db kv K s pv p str from_ := by
  obtain ⟨l1, l2, l3⟩ := h.lay
  have hlen := h.len
  have hdl : db < w.heap.size := by obtain ⟨f, hf⟩ := h.desk; exact hf.lt
  have hxl := h.dv.mach.lt
  obtain ⟨pa, pcap, epv⟩ : ∃ a c, pv = .slice a p.length c := by
    obtain ⟨a, c, e, _⟩ := h.code.sl
    exact ⟨a, c, e⟩
  have hcode := h.code
  rw [epv] at hcode ⊢
  have Hpv : Hid _ := epv
  clear epv
  have e0 : ∀ w, (binOp .neq 31 (.slice none 0 0) (.slice none 0 0)).run Try.prog w = .ok (.bool false) w := fun w => run_neq_slice_nil_any w 31 47 none 0 0 0 0 Try.underlying31
  go_enter Try.func16, Try.ntmps16
  go_wp2_with fail
  refine (copyProg_any hcode hlen).mono ?_
  rintro e w1 ⟨rfl, f1, hs1, fc, hbc, hfc⟩
  go_wp2_with fail
  have f2 : Fr (fun b => b = db) w1 w1 := Fr.refl _ _
  have hb2 := hbc
  have g2 : Fr (fun b => b = db) w w1 := (f1.mono (S' := fun b => b = db) (fun _ _ h => h.elim)).trans f2 (fun _ _ h => h)
  have hcode2 : CodeAt w1 (.slice pa p.length pcap) p := hcode.frame g2 (fun b n c e => by rw [← Hpv.out] at e; have := h.pvb b n c e; omega)
  refine (copyProg_any hcode2 hlen).mono ?_
  rintro e w3 ⟨rfl, f3, hs3, fc3, hbc3, hfc3⟩
  have g3 : Fr (fun b => b = db) w w3 := g2.trans f3 (fun _ _ h => h.elim)
  have s2 := g2.size
  have g3' : Fr (fun _ => False) w w3 := f1.trans f3 (fun _ _ h => h)
  have hd3 := h.dv.far g3 (fun b hb => by unfold mOwn at hb; omega) (fun b n c e => by have := h.kvb b n c e; omega)
  have hb3 := hb2.frame f3 (by simp)
  go_wp2_with fail
  refine (any_all (p := p) hd3 hb3 hfc (Nat.le_refl _) (by unfold mOwn; omega) hlen str from_ h1 h2 h3).mono ?_
  rintro e w4 ⟨rfl, hany⟩
  have f34 : Fr (mOwn x) w3 w4 := by
    rcases hany with ⟨_, f⟩ | ⟨_, _, _, _, _, _, f⟩
    · exact f.mono (fun _ _ h => h.elim)
    · exact f
  have hm4 : ∃ f, Blk w4 m 3 f ∧ f 0 = .int .i64 0 := by
    obtain ⟨f, hf, hf0⟩ := hm
    exact ⟨f, (hf.frame g3 (by omega)).frame f34 (by unfold mOwn; omega), hf0⟩
  have hth : PAt w4 w1.heap.size p := (hfc3.at hbc3 (Nat.le_refl _)).frame f34 (by unfold mOwn; omega)
  go_wp2_with fail
  refine (mAny_any hm4 p w1.heap.size p.length hth (by omega) str from_ (fun _ => by omega)).mono ?_
  rintro e w5 ⟨rfl, hm5, f5⟩
  have hb5 := (hb3.frame f34 (by unfold mOwn; omega)).frame f5 (by omega)
  have hcode5 : CodeAt w5 (.slice pa p.length pcap) p := ((hcode.frame g3 (fun b n c e => by rw [← Hpv.out] at e; have := h.pvb b n c e; omega)).frame f34 (fun b n c e => by rw [← Hpv.out] at e; have := h.pvb b n c e; unfold mOwn; omega)).frame f5 (fun b n c e => by rw [← Hpv.out] at e; have := h.pvb b n c e; omega)
  have hmn5 : SlAt w5 (.slice (some ⟨w.heap.size, 0, none⟩) p.length p.length) p := CodeAt.sl (.inr ⟨w.heap.size, p.length, _, rfl, (Nat.le_refl _), hb5, hfc⟩)
  go_wp2_with fail
  refine (sameProg_any hmn5 hcode5.sl (by omega)).mono ?_
  rintro e w6 ⟨rfl, f6⟩
  rw [(sameP_iff p p).2 rfl]
  have hb6 := hb5.frame f6 (by simp)
  go_wp2_with fail
  refine (scribble_any hb6 (by omega) hlen).mono ?_
  rintro e w7 ⟨rfl, ⟨f7', hb7⟩, f7⟩
  have f57 : Fr (fun b => b = w.heap.size) w5 w7 := (f6.mono (S' := fun b => b = w.heap.size) (fun _ _ h => h.elim)).trans f7 (fun _ _ h => h)
  have nx := h.next (mine := w.heap.size) (.inr (Nat.le_refl _)) (by omega) g3 hany f5 hm5 f57 (by obtain ⟨f, hf⟩ := h.desk; exact ⟨f, (((hf.frame g3' (by simp)).frame f34 (by unfold mOwn; omega)).frame f5 (by omega)).frame f57 (by omega)⟩)
  have HN : Hid _ := nx
  clear nx
  go_wp2_with fail
  refine bodyPost_ret (v := .tuple #[.bool true, .int .i64 (dErr p str from_)]) (by simp [results, Try.results16, go_sem]) rfl ⟨rfl, ?_⟩
  have := HN.out
  rw [Hpv.out] at this
  exact this

set_option maxRecDepth 100000 in
set_option maxHeartbeats 8000000 in
theorem sameAny_desk {w : World} {lo x m db : Nat} {kv : Value} {K : List In} {s : DS} {pv : Value} {p : List In} (h : LawW w lo x m db kv K s pv p) (hm : ∃ f, Blk w m 3 f ∧ f 0 = .int .i64 0) (str : ByteArray) (from_ : Int)
    (h1 : s.built < 999999999999980000) (h2 : s.flushes < 999999999999980000) (h3 : s.worked < 999999999999980000) :
    Calls Try.prog 16 #[.pointer (some ⟨x, 0, none⟩), .pointer (some ⟨m, 0, none⟩), .slice (some ⟨db, 0, none⟩) 65 65, pv, .string str, .int .i64 from_] w fun e w' => e = .returned (.tuple #[.bool true, .int .i64 (dErr p str from_)]) ∧ SameS w w' lo x m db kv K s pv p str from_ := by
  obtain ⟨l1, l2, l3⟩ := h.lay
  have hlen := h.len
  have hdl : db < w.heap.size := by obtain ⟨f, hf⟩ := h.desk; exact hf.lt
  have hxl := h.dv.mach.lt
  obtain ⟨pa, pcap, epv⟩ : ∃ a c, pv = .slice a p.length c := by
    obtain ⟨a, c, e, _⟩ := h.code.sl
    exact ⟨a, c, e⟩
  have hcode := h.code
  rw [epv] at hcode ⊢
  have Hpv : Hid _ := epv
  clear epv
  have e0 : ∀ w, (binOp .neq 31 (.slice (some ⟨db, 0, none⟩) 65 65) (.slice none 0 0)).run Try.prog w = .ok (.bool true) w := fun w => run_neq_slice_nil_any w 31 47 (some ⟨db, 0, none⟩) 65 65 0 0 Try.underlying31
  go_enter Try.func16, Try.ntmps16
  go_wp2_with fail
  refine (copyProg_any hcode hlen).mono ?_
  rintro e w1 ⟨rfl, f1, hs1, fc, hbc, hfc⟩
  obtain ⟨fd, hdk⟩ := h.desk
  have hdk1 := hdk.frame f1 (by simp)
  have hcode1 := hcode.frame f1 (fun _ _ _ _ h => h)
  obtain ⟨w2, hw2⟩ : ∃ w2 : World, True := ⟨w1, trivial⟩
  clear hw2 w2
  rcases hcode1 with ⟨ea, ep⟩ | ⟨pb, cap', fp, ea, hcap, hpb, hpf⟩
  · subst ep
    cases ea
    go_wp2_with (refine wpList_copyNil (by rfl) _ _ 31 31 (by rfl) 47 7 (some ⟨db, 0, none⟩) 0 65 0 (by rfl) (by rfl) Try.underlying31 (by kernel_rfl) ?_)
    have hmine : Holds7 fd [] := fun i hi => by simp at hi
    have f2 : Fr (fun b => b = db) w1 w1 := Fr.refl _ _
    have hb2 := hdk1
    have g2 : Fr (fun b => b = db) w w1 := (f1.mono (S' := fun b => b = db) (fun _ _ h => h.elim)).trans f2 (fun _ _ h => h)
    have hcode2 : CodeAt w1 (.slice none 0 0) [] := hcode.frame g2 (fun b n c e => by rw [← Hpv.out] at e; have := h.pvb b n c e; omega)
    refine (copyProg_any hcode2 hlen).mono ?_
    rintro e w3 ⟨rfl, f3, hs3, fc3, hbc3, hfc3⟩
    have g3 : Fr (fun b => b = db) w w3 := g2.trans f3 (fun _ _ h => h.elim)
    have s2 := g2.size
    have hd3 := h.dv.far g3 (fun b hb => by unfold mOwn at hb; omega) (fun b n c e => by have := h.kvb b n c e; omega)
    have hb3 := hb2.frame f3 (by simp)
    go_wp2_with fail
    refine (any_all (p := []) hd3 hb3 hmine (by omega) (by unfold mOwn; omega) hlen str from_ h1 h2 h3).mono ?_
    rintro e w4 ⟨rfl, hany⟩
    have f34 : Fr (mOwn x) w3 w4 := by
      rcases hany with ⟨_, f⟩ | ⟨_, _, _, _, _, _, f⟩
      · exact f.mono (fun _ _ h => h.elim)
      · exact f
    have hm4 : ∃ f, Blk w4 m 3 f ∧ f 0 = .int .i64 0 := by
      obtain ⟨f, hf, hf0⟩ := hm
      exact ⟨f, (hf.frame g3 (by omega)).frame f34 (by unfold mOwn; omega), hf0⟩
    have hth : PAt w4 w1.heap.size [] := (hfc3.at hbc3 (Nat.le_refl _)).frame f34 (by unfold mOwn; omega)
    go_wp2_with fail
    refine (mAny_any hm4 [] w1.heap.size 0 hth (by omega) str from_ (fun _ => by omega)).mono ?_
    rintro e w5 ⟨rfl, hm5, f5⟩
    have hb5 := (hb3.frame f34 (by unfold mOwn; omega)).frame f5 (by omega)
    have hcode5 : CodeAt w5 (.slice none 0 0) [] := ((hcode.frame g3 (fun b n c e => by rw [← Hpv.out] at e; have := h.pvb b n c e; omega)).frame f34 (fun b n c e => by rw [← Hpv.out] at e; have := h.pvb b n c e; unfold mOwn; omega)).frame f5 (fun b n c e => by rw [← Hpv.out] at e; have := h.pvb b n c e; omega)
    have hmn5 : SlAt w5 (.slice (some ⟨db, 0, none⟩) 0 65) [] := CodeAt.sl (.inr ⟨db, 65, _, rfl, (by omega), hb5, hmine⟩)
    go_wp2_with fail
    refine (sameProg_any hmn5 hcode5.sl (by omega)).mono ?_
    rintro e w6 ⟨rfl, f6⟩
    rw [(sameP_iff [] []).2 rfl]
    have hb6 := hb5.frame f6 (by simp)
    go_wp2_with fail
    refine (scribble_any hb6 (by omega) hlen).mono ?_
    rintro e w7 ⟨rfl, ⟨f7', hb7⟩, f7⟩
    have f57 : Fr (fun b => b = db) w5 w7 := (f6.mono (S' := fun b => b = db) (fun _ _ h => h.elim)).trans f7 (fun _ _ h => h)
    have nx := h.next (mine := db) (.inl rfl) (by omega) g3 hany f5 hm5 f57 ⟨f7', hb7⟩
    have HN : Hid _ := nx
    clear nx
    go_wp2_with fail
    refine bodyPost_ret (v := .tuple #[.bool true, .int .i64 (dErr [] str from_)]) (by simp [results, Try.results16, go_sem]) rfl ⟨rfl, ?_⟩
    have := HN.out
    rw [Hpv.out] at this
    exact this
  · cases ea
    go_wp2_with (refine wpList_copyA (by rfl) _ _ 31 31 (by rfl) 47 7 db 0 p.length 65 pb 0 p.length pcap (65 * 7) (pcap * 7) p.length _ fp (by rfl) (by rfl) Try.underlying31 (by kernel_rfl) (by show _ = min _ _; omega) hdk1 hpb (by omega) (by omega) (fun j hj => by rw [Nat.zero_add]; exact hpf.one j hj) ?_; intro w2 f2 hb2)
    have hmine := hpf.lay (g := fd) (p.length * 7) rfl
    have g2 : Fr (fun b => b = db) w w2 := (f1.mono (S' := fun b => b = db) (fun _ _ h => h.elim)).trans f2 (fun _ _ h => h)
    have hcode2 : CodeAt w2 (.slice (some ⟨pb, 0, none⟩) p.length pcap) p := hcode.frame g2 (fun b n c e => by rw [← Hpv.out] at e; have := h.pvb b n c e; omega)
    refine (copyProg_any hcode2 hlen).mono ?_
    rintro e w3 ⟨rfl, f3, hs3, fc3, hbc3, hfc3⟩
    have g3 : Fr (fun b => b = db) w w3 := g2.trans f3 (fun _ _ h => h.elim)
    have s2 := g2.size
    have hd3 := h.dv.far g3 (fun b hb => by unfold mOwn at hb; omega) (fun b n c e => by have := h.kvb b n c e; omega)
    have hb3 := hb2.frame f3 (by simp)
    go_wp2_with fail
    refine (any_all (p := p) hd3 hb3 hmine (by omega) (by unfold mOwn; omega) hlen str from_ h1 h2 h3).mono ?_
    rintro e w4 ⟨rfl, hany⟩
    have f34 : Fr (mOwn x) w3 w4 := by
      rcases hany with ⟨_, f⟩ | ⟨_, _, _, _, _, _, f⟩
      · exact f.mono (fun _ _ h => h.elim)
      · exact f
    have hm4 : ∃ f, Blk w4 m 3 f ∧ f 0 = .int .i64 0 := by
      obtain ⟨f, hf, hf0⟩ := hm
      exact ⟨f, (hf.frame g3 (by omega)).frame f34 (by unfold mOwn; omega), hf0⟩
    have hth : PAt w4 w2.heap.size p := (hfc3.at hbc3 (Nat.le_refl _)).frame f34 (by unfold mOwn; omega)
    go_wp2_with fail
    refine (mAny_any hm4 p w2.heap.size p.length hth (by omega) str from_ (fun _ => by omega)).mono ?_
    rintro e w5 ⟨rfl, hm5, f5⟩
    have hb5 := (hb3.frame f34 (by unfold mOwn; omega)).frame f5 (by omega)
    have hcode5 : CodeAt w5 (.slice (some ⟨pb, 0, none⟩) p.length pcap) p := ((hcode.frame g3 (fun b n c e => by rw [← Hpv.out] at e; have := h.pvb b n c e; omega)).frame f34 (fun b n c e => by rw [← Hpv.out] at e; have := h.pvb b n c e; unfold mOwn; omega)).frame f5 (fun b n c e => by rw [← Hpv.out] at e; have := h.pvb b n c e; omega)
    have hmn5 : SlAt w5 (.slice (some ⟨db, 0, none⟩) p.length 65) p := CodeAt.sl (.inr ⟨db, 65, _, rfl, (by omega), hb5, hmine⟩)
    go_wp2_with fail
    refine (sameProg_any hmn5 hcode5.sl (by omega)).mono ?_
    rintro e w6 ⟨rfl, f6⟩
    rw [(sameP_iff p p).2 rfl]
    have hb6 := hb5.frame f6 (by simp)
    go_wp2_with fail
    refine (scribble_any hb6 (by omega) hlen).mono ?_
    rintro e w7 ⟨rfl, ⟨f7', hb7⟩, f7⟩
    have f57 : Fr (fun b => b = db) w5 w7 := (f6.mono (S' := fun b => b = db) (fun _ _ h => h.elim)).trans f7 (fun _ _ h => h)
    have nx := h.next (mine := db) (.inl rfl) (by omega) g3 hany f5 hm5 f57 ⟨f7', hb7⟩
    have HN : Hid _ := nx
    clear nx
    go_wp2_with fail
    refine bodyPost_ret (v := .tuple #[.bool true, .int .i64 (dErr p str from_)]) (by simp [results, Try.results16, go_sem]) rfl ⟨rfl, ?_⟩
    have := HN.out
    rw [Hpv.out] at this
    exact this
end Go.Proofs.Qxb6500282a
