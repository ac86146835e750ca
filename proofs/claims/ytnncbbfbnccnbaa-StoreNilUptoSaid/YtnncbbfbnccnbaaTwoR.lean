/- A store and the reference's store, side by side; the law's same. -/
import Derived.Test.YtnncbbfbnccnbaaModel
import Derived.Test.YtnncbbfbnccnbaaCrash
namespace Go.Proofs.Ytnncbbfbnccnbaa
open Go.RowKit
attribute [local go_sem] gives givesUpon

structure Ab.fine (a : Ab) : Prop where
  good : a.good
  tidy : a.tidy
  apart : a.apart
  sorted : a.files.Pairwise fun f g => bytesBefore f.name g.name = true
def TwoR (w0 : World) (A B : Nat) (a b : Ab) (w : World) : Prop := ∃ (s : St) (u : RS), s.ab = a ∧ u.ab = b ∧ Pair stK rsK w0 A B s u w
section
variable {w0 w w' : World} {A B : Nat} {a b : Ab}
theorem TwoR.more (h : TwoR w0 A B a b w) (k : Below w.heap.size w w') : TwoR w0 A B a b w' := by
  obtain ⟨s, u, e1, e2, hp⟩ := h
  exact ⟨s, u, e1, e2, hp.more k⟩
theorem TwoR.below (h : TwoR w0 A B a b w) : Below w0.heap.size w0 w := by
  obtain ⟨s, u, e1, e2, hp⟩ := h
  exact hp.below
theorem TwoR.sorted (h : TwoR w0 A B a b w) : a.files.Pairwise fun f g => bytesBefore f.name g.name = true := by
  obtain ⟨s, u, rfl, e2, hp⟩ := h
  exact St.At.sorted hp.fst
theorem TwoR.apart (h : TwoR w0 A B a b w) : a.apart := by
  obtain ⟨s, u, rfl, e2, hp⟩ := h
  exact St.At.apart' hp.fst
theorem TwoR.fine (h : TwoR w0 A B a b w) (g : a.good) (t : a.tidy) : a.fine := ⟨g, t, h.apart, h.sorted⟩
theorem TwoR.up (h : TwoR w0 A B a b w) (g : a.good) (c : CallD) (hc : c.n ≤ 9223372036854775807) : a.up (a.call c).2 := g.call h.apart c hc
theorem TwoR.call (h : TwoR w0 A B a b w) (g : a.good) (c : CallD) (hc : c.fit) :
    Calls Try.prog 16 #[.pointer (some ⟨A, 0, none⟩), .agg c.cells.toArray] w fun e w' => e = .returned (.agg #[.string ⟨(a.call c).1.1.toArray⟩, .int .i64 (a.call c).1.2]) ∧ TwoR w0 A B (a.call c).2 b w' := by
  obtain ⟨s, u, rfl, rfl, hp⟩ := h
  have hf := ents_len s
  refine (do_any w A w0.heap.size s c hp.fst g.ok (by have := g.few; omega) hc hp.below.size).mono ?_
  rintro e1 w' ⟨s', rfl, h3, h4⟩
  exact ⟨rfl, s', u, h3, rfl, hp.step h4.moved⟩
theorem TwoR.model (h : TwoR w0 A B a b w) (g : b.fine) (c : CallD) (hc : c.fit) :
    Calls Try.prog 17 #[.pointer (some ⟨B, 0, none⟩), .agg c.cells.toArray] w fun e w' => e = .returned (.agg #[.string ⟨(b.call c).1.1.toArray⟩, .int .i64 (b.call c).1.2]) ∧ TwoR w0 A B a (b.call c).2 w' := by
  obtain ⟨s, u, rfl, rfl, hp⟩ := h
  refine (model_any w B w0.heap.size u c hp.snd ⟨g.good, g.tidy, g.apart, g.sorted⟩ hc hp.below.size).mono ?_
  rintro e1 w' ⟨u', rfl, h3, h4⟩
  exact ⟨rfl, s, u', rfl, h3, hp.step2 h4.moved⟩
theorem TwoR.used (h : TwoR w0 A B a b w) : Calls Try.prog 20 #[.pointer (some ⟨A, 0, none⟩)] w fun e w' => e = .returned (.int .i64 a.used) ∧ w' = w := by
  obtain ⟨s, u, rfl, rfl, hp⟩ := h
  exact Used_any w A _ s hp.fst
theorem TwoR.peak (h : TwoR w0 A B a b w) : Calls Try.prog 21 #[.pointer (some ⟨A, 0, none⟩)] w fun e w' => e = .returned (.int .i64 a.peak) ∧ w' = w := by
  obtain ⟨s, u, rfl, rfl, hp⟩ := h
  exact Peak_any w A _ s hp.fst
theorem TwoR.peak2 (h : TwoR w0 A B a b w) : Calls Try.prog 43 #[.pointer (some ⟨B, 0, none⟩)] w fun e w' => e = .returned (.int .i64 b.peak) ∧ w' = w := by
  obtain ⟨s, u, rfl, rfl, hp⟩ := h
  exact rPeak_any w B _ u hp.snd
theorem TwoR.used2 (h : TwoR w0 A B a b w) (g : b.good) : Calls Try.prog 42 #[.pointer (some ⟨B, 0, none⟩)] w fun e w' => e = .returned (.int .i64 b.used) ∧ TwoR w0 A B a b w' := by
  obtain ⟨s, u, rfl, rfl, hp⟩ := h
  have h1 := g.few
  have h2 : u.ab.used = total u.files := rfl
  have h3 := g.ok.limit
  refine (rUsed_any w B _ u hp.snd (by have h4 : u.ab.files = u.files := rfl; rw [h4] at h1; omega) (by omega)).mono ?_
  rintro e w' ⟨rfl, hb⟩
  exact ⟨rfl, TwoR.more ⟨s, u, rfl, rfl, hp⟩ hb⟩
def LrPost (w0 : World) (A B : Nat) (a b : Ab) (L : List Fl) (w : World) (e : Ending) (w' : World) : Prop := ∃ p cap, e = .returned (.slice p L.length cap) ∧ FilesAt w' p L ∧ TwoR w0 A B a b w' ∧ Below w.heap.size w w'
theorem TwoR.list (h : TwoR w0 A B a b w) (g : a.good) : Calls Try.prog 19 #[.pointer (some ⟨A, 0, none⟩)] w (LrPost w0 A B a b a.files w) := by
  obtain ⟨s, u, rfl, rfl, hp⟩ := h
  have hf := ents_len s
  refine (List_any w A w0.heap.size s hp.fst (by have := g.few; omega) (fun f hfm => by have := ok_text g.ok (f := f.fl) (List.mem_map_of_mem hfm); have e : f.fl.text.length = f.text.length := rfl; omega)).mono ?_
  rintro e w' ⟨p, c, rfl, hown, hb⟩
  rw [← hf] at hown ⊢
  exact ⟨p, c, rfl, hown.files, TwoR.more ⟨s, u, rfl, rfl, hp⟩ hb, hb⟩
theorem TwoR.list2 (h : TwoR w0 A B a b w) (g : b.good) : Calls Try.prog 41 #[.pointer (some ⟨B, 0, none⟩)] w (LrPost w0 A B a b b.files w) := by
  obtain ⟨s, u, rfl, rfl, hp⟩ := h
  have h1 := g.few
  have h4 : u.ab.files = u.files := rfl
  rw [h4] at h1
  refine (rList_any w B w0.heap.size u hp.snd (by omega) (fun f hfm => by have := ok_text g.ok (f := f) hfm; omega)).mono ?_
  rintro e w' ⟨p, c, rfl, hown, hb⟩
  exact ⟨p, c, rfl, hown.files, TwoR.more ⟨s, u, rfl, rfl, hp⟩ hb, hb⟩
end
theorem TwoR.new {w0 w1 : World} {n : Int} {A : Nat} {a : Ab} (h : One w0 A a w1) : Calls Try.prog 15 #[.int .i64 n] w1 fun e w' => e = .returned (.pointer (some ⟨w1.heap.size, 0, none⟩)) ∧ TwoR w0 A w1.heap.size a ⟨min (max n 0) 262144, 0, 0, [], false, 0⟩ w' := by
  obtain ⟨s, rfl, h1, h2⟩ := h
  refine (rNew_any n w1).mono ?_
  rintro e w' ⟨rfl, h3, h4⟩
  refine ⟨rfl, s, _, rfl, rfl, ⟨h1.below h4 (Nat.le_refl _), ⟨h3.row, ownsRow_base h3.files h2.size, Nat.le_trans h2.size h3.lo⟩, fun k hk hk2 => ?_, h2.trans (h4.mono h2.size)⟩⟩
  have g1 := (h1.blocks k hk).2
  have g2 := (h3.blocks k hk2).1
  omega
set_option maxRecDepth 100000 in
set_option maxHeartbeats 4000000 in
theorem same_any (w0 w : World) (A B : Nat) (a : Ab) (h : TwoR w0 A B a a w) (g : a.good) :
    Calls Try.prog 18 #[.pointer (some ⟨A, 0, none⟩), .pointer (some ⟨B, 0, none⟩)] w fun e w' => e = .returned (.bool true) ∧ TwoR w0 A B a a w' := by
  have H := hid h
  have HG := hid g
  clear h g
  go_enter Try.func18, Try.ntmps18
  go_wp2_with fail
  refine (H.out.list HG.out).mono ?_
  rintro e w1 ⟨p, cp, rfl, hf1, ht1, hb1⟩
  have HF1 := hid hf1
  have HT1 := hid ht1
  clear hf1 ht1 hb1 H
  go_wp2_with fail
  refine (HT1.out.list2 HG.out).mono ?_
  rintro e w2 ⟨q, cq, rfl, hf2, ht2, hb2⟩
  have HF2 := hid hf2
  have HT2 := hid ht2
  have HF3 := hid (HF1.out.below hb2)
  clear hf2 ht2 hb2 HF1 HT1
  go_wp2_with fail
  refine (SameFiles_any w2 p q cp cq _ HF3.out HF2.out (by have := HG.out.few; omega)).mono ?_
  rintro e w3 ⟨rfl, m, rfl⟩
  have HT3 := hid (HT2.out.more (below_drewN (Below.refl _ _) m))
  clear HT2
  generalize w2.drewN m = w3 at *
  go_wp2_with fail
  refine HT3.out.used.mono ?_
  rintro e w4 ⟨rfl, rfl⟩
  go_wp2_with fail
  refine (HT3.out.used2 HG.out).mono ?_
  rintro e w5 ⟨rfl, ht5⟩
  have HT5 := hid ht5
  clear ht5 HT3
  go_wp2_with fail
  refine HT5.out.peak.mono ?_
  rintro e w6 ⟨rfl, rfl⟩
  go_wp2_with fail
  refine HT5.out.peak2.mono ?_
  rintro e w7 ⟨rfl, rfl⟩
  go_wp2_with fail
  all_goals go_ret
  all_goals exact ⟨rfl, HT5.out⟩
end Go.Proofs.Ytnncbbfbnccnbaa
