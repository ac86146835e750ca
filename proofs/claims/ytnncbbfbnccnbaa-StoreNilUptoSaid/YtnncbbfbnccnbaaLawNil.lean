/- The law StoreNil: its walk answers true. -/
import Derived.Test.YtnncbbfbnccnbaaZeroDo
import Derived.Test.YtnncbbfbnccnbaaLawCalls
namespace Go.Proofs.Ytnncbbfbnccnbaa
open Go.RowKit Go.Maps Go.Sort
attribute [local go_sem] gives givesUpon

def TwoZ (w0 : World) (A B : Nat) (a b : Ab) (w : World) : Prop := ∃ (s : ZS) (u : RS), s.ab = a ∧ u.ab = b ∧ Pair zsK rsK w0 A B s u w
section
variable {w0 w w' : World} {A B : Nat} {a b : Ab}
theorem TwoZ.more (h : TwoZ w0 A B a b w) (k : Below w.heap.size w w') : TwoZ w0 A B a b w' := by
  obtain ⟨s, u, e1, e2, hp⟩ := h
  exact ⟨s, u, e1, e2, hp.more k⟩
theorem TwoZ.below (h : TwoZ w0 A B a b w) : Below w0.heap.size w0 w := by
  obtain ⟨s, u, e1, e2, hp⟩ := h
  exact hp.below
theorem TwoZ.sorted (h : TwoZ w0 A B a b w) : a.files.Pairwise fun f g => bytesBefore f.name g.name = true := by
  obtain ⟨s, u, rfl, e2, hp⟩ := h
  cases s with
  | st s => exact St.At.sorted hp.fst
  | zero c n => exact List.Pairwise.nil
theorem TwoZ.apart (h : TwoZ w0 A B a b w) : a.apart := by
  obtain ⟨s, u, rfl, e2, hp⟩ := h
  cases s with
  | st s => exact St.At.apart' hp.fst
  | zero c n => exact List.Pairwise.nil
theorem TwoZ.fine (h : TwoZ w0 A B a b w) (g : a.good) (t : a.tidy) : a.fine := ⟨g, t, h.apart, h.sorted⟩
theorem TwoZ.up (h : TwoZ w0 A B a b w) (g : a.good) (c : CallD) (hc : c.n ≤ 9223372036854775807) : a.up (a.call c).2 := g.call h.apart c hc
theorem TwoZ.call (h : TwoZ w0 A B a b w) (g : a.good) (c : CallD) (hc : c.fit) :
    Calls Try.prog 16 #[.pointer (some ⟨A, 0, none⟩), .agg c.cells.toArray] w fun e w' => e = .returned (.agg #[.string ⟨(a.call c).1.1.toArray⟩, .int .i64 (a.call c).1.2]) ∧ TwoZ w0 A B (a.call c).2 b w' := by
  obtain ⟨s, u, rfl, rfl, hp⟩ := h
  refine (dozs_any w A w0.heap.size s c hp.fst g hc hp.below.size).mono ?_
  rintro e1 w' ⟨s', rfl, h3, h4⟩
  exact ⟨rfl, s', u, h3, rfl, hp.step h4⟩
theorem TwoZ.model (h : TwoZ w0 A B a b w) (g : b.fine) (c : CallD) (hc : c.fit) :
    Calls Try.prog 17 #[.pointer (some ⟨B, 0, none⟩), .agg c.cells.toArray] w fun e w' => e = .returned (.agg #[.string ⟨(b.call c).1.1.toArray⟩, .int .i64 (b.call c).1.2]) ∧ TwoZ w0 A B a (b.call c).2 w' := by
  obtain ⟨s, u, rfl, rfl, hp⟩ := h
  refine (model_any w B w0.heap.size u c hp.snd ⟨g.good, g.tidy, g.apart, g.sorted⟩ hc hp.below.size).mono ?_
  rintro e1 w' ⟨u', rfl, h3, h4⟩
  exact ⟨rfl, s, u', rfl, h3, hp.step2 h4.moved⟩
theorem TwoZ.used (h : TwoZ w0 A B a b w) : Calls Try.prog 20 #[.pointer (some ⟨A, 0, none⟩)] w fun e w' => e = .returned (.int .i64 a.used) ∧ w' = w := by
  obtain ⟨s, u, rfl, rfl, hp⟩ := h
  cases s with
  | st s => exact Used_any w A _ s hp.fst
  | zero c n => exact zUsed_any w A c n hp.fst.1
theorem TwoZ.peak (h : TwoZ w0 A B a b w) : Calls Try.prog 21 #[.pointer (some ⟨A, 0, none⟩)] w fun e w' => e = .returned (.int .i64 a.peak) ∧ w' = w := by
  obtain ⟨s, u, rfl, rfl, hp⟩ := h
  cases s with
  | st s => exact Peak_any w A _ s hp.fst
  | zero c n => exact zPeak_any w A c n hp.fst.1
theorem TwoZ.peak2 (h : TwoZ w0 A B a b w) : Calls Try.prog 43 #[.pointer (some ⟨B, 0, none⟩)] w fun e w' => e = .returned (.int .i64 b.peak) ∧ w' = w := by
  obtain ⟨s, u, rfl, rfl, hp⟩ := h
  exact rPeak_any w B _ u hp.snd
theorem TwoZ.used2 (h : TwoZ w0 A B a b w) (g : b.good) : Calls Try.prog 42 #[.pointer (some ⟨B, 0, none⟩)] w fun e w' => e = .returned (.int .i64 b.used) ∧ TwoZ w0 A B a b w' := by
  obtain ⟨s, u, rfl, rfl, hp⟩ := h
  have h1 := g.few
  have h2 : u.ab.used = total u.files := rfl
  have h3 := g.ok.limit
  refine (rUsed_any w B _ u hp.snd (by have h4 : u.ab.files = u.files := rfl; rw [h4] at h1; omega) (by omega)).mono ?_
  rintro e w' ⟨rfl, hb⟩
  exact ⟨rfl, TwoZ.more ⟨s, u, rfl, rfl, hp⟩ hb⟩
def LzPost (w0 : World) (A B : Nat) (a b : Ab) (L : List Fl) (w : World) (e : Ending) (w' : World) : Prop := ∃ p cap, e = .returned (.slice p L.length cap) ∧ FilesAt w' p L ∧ TwoZ w0 A B a b w' ∧ Below w.heap.size w w'
theorem TwoZ.list (h : TwoZ w0 A B a b w) (g : a.good) : Calls Try.prog 19 #[.pointer (some ⟨A, 0, none⟩)] w (LzPost w0 A B a b a.files w) := by
  obtain ⟨s, u, rfl, rfl, hp⟩ := h
  cases s with
  | st s =>
    have g : s.ab.good := g
    have hf := ents_len s
    refine (List_any w A w0.heap.size s hp.fst (by have := g.few; omega) (fun f hfm => by have := ok_text g.ok (f := f.fl) (List.mem_map_of_mem hfm); have e : f.fl.text.length = f.text.length := rfl; omega)).mono ?_
    rintro e w' ⟨p, c, rfl, hown, hb⟩
    have e1 : (ZS.st s).ab.files.length = s.ents.length := hf
    rw [← hf] at hown
    exact ⟨p, c, by rw [e1], hown.files, TwoZ.more ⟨.st s, u, rfl, rfl, hp⟩ hb, hb⟩
  | zero c n =>
    refine (zList_any w A c n hp.fst.1).mono ?_
    rintro e w' ⟨rfl, hb⟩
    exact ⟨none, 0, rfl, .inl rfl, TwoZ.more ⟨.zero c n, u, rfl, rfl, hp⟩ hb, hb⟩
theorem TwoZ.list2 (h : TwoZ w0 A B a b w) (g : b.good) : Calls Try.prog 41 #[.pointer (some ⟨B, 0, none⟩)] w (LzPost w0 A B a b b.files w) := by
  obtain ⟨s, u, rfl, rfl, hp⟩ := h
  have h1 := g.few
  have h4 : u.ab.files = u.files := rfl
  rw [h4] at h1
  refine (rList_any w B w0.heap.size u hp.snd (by omega) (fun f hfm => by have := ok_text g.ok (f := f) hfm; omega)).mono ?_
  rintro e w' ⟨p, c, rfl, hown, hb⟩
  exact ⟨p, c, rfl, hown.files, TwoZ.more ⟨s, u, rfl, rfl, hp⟩ hb, hb⟩
end
set_option maxRecDepth 100000 in
set_option maxHeartbeats 4000000 in
theorem samez_any (w0 w : World) (A B : Nat) (a : Ab) (h : TwoZ w0 A B a a w) (g : a.good) :
    Calls Try.prog 18 #[.pointer (some ⟨A, 0, none⟩), .pointer (some ⟨B, 0, none⟩)] w fun e w' => e = .returned (.bool true) ∧ TwoZ w0 A B a a w' := by
  have H := hid h
  have HG := hid g
  clear h g
  go_enter Try.func18, Try.ntmps18
  go_wp2_with fail
  refine (H.out.list HG.out).mono ?_
  rintro e w1 ⟨p, cp, rfl, hf1, ht1, hb1⟩
  have HF1 := hid hf1
  have HT1 := hid ht1
  clear hf1 ht1 hb1 H
  go_wp2_with fail
  refine (HT1.out.list2 HG.out).mono ?_
  rintro e w2 ⟨q, cq, rfl, hf2, ht2, hb2⟩
  have HF2 := hid hf2
  have HT2 := hid ht2
  have HF3 := hid (HF1.out.below hb2)
  clear hf2 ht2 hb2 HF1 HT1
  go_wp2_with fail
  refine (SameFiles_any w2 p q cp cq _ HF3.out HF2.out (by have := HG.out.few; omega)).mono ?_
  rintro e w3 ⟨rfl, m, rfl⟩
  have HT3 := hid (HT2.out.more (below_drewN (Below.refl _ _) m))
  clear HT2
  generalize w2.drewN m = w3 at *
  go_wp2_with fail
  refine HT3.out.used.mono ?_
  rintro e w4 ⟨rfl, rfl⟩
  go_wp2_with fail
  refine (HT3.out.used2 HG.out).mono ?_
  rintro e w5 ⟨rfl, ht5⟩
  have HT5 := hid ht5
  clear ht5 HT3
  go_wp2_with fail
  refine HT5.out.peak.mono ?_
  rintro e w6 ⟨rfl, rfl⟩
  go_wp2_with fail
  refine HT5.out.peak2.mono ?_
  rintro e w7 ⟨rfl, rfl⟩
  go_wp2_with fail
  all_goals go_ret
  all_goals exact ⟨rfl, HT5.out⟩
theorem TwoZ.new (w0 : World) : Calls Try.prog 15 #[.int .i64 0] (w0.alloc (.cells #[.int .i64 0, .int .i64 0, .int .i64 0, .map none, .bool false, .int .i64 0] 47)) fun e w' => e = .returned (.pointer (some ⟨w0.heap.size + 1, 0, none⟩)) ∧ TwoZ w0 w0.heap.size (w0.heap.size + 1) (zab false 0) (zab false 0) w' := by
  have hs : (w0.alloc (.cells #[.int .i64 0, .int .i64 0, .int .i64 0, .map none, .bool false, .int .i64 0] 47)).heap.size = w0.heap.size + 1 := by simp
  have hz : Zat (w0.alloc (.cells #[.int .i64 0, .int .i64 0, .int .i64 0, .map none, .bool false, .int .i64 0] 47)) w0.heap.size false 0 := Row.at w0 (zcells false 0) _
  have hb : Below w0.heap.size w0 (w0.alloc (.cells #[.int .i64 0, .int .i64 0, .int .i64 0, .map none, .bool false, .int .i64 0] 47)) := (Below.refl _ w0).alloc (Nat.le_refl _) _
  generalize w0.alloc (.cells #[.int .i64 0, .int .i64 0, .int .i64 0, .map none, .bool false, .int .i64 0] 47) = w1 at *
  refine (rNew_any 0 w1).mono ?_
  rintro e w' ⟨rfl, h3, h4⟩
  rw [hs] at h3 ⊢
  refine ⟨rfl, .zero false 0, _, rfl, rfl, ⟨⟨Row.below hz h4 (by omega), Nat.le_refl _⟩, ⟨h3.row, ownsRow_base h3.files (Nat.le_succ _), Nat.le_trans (Nat.le_succ _) h3.lo⟩, fun k hk hk2 => ?_, hb.trans (h4.mono (by omega))⟩⟩
  have g1 : k = w0.heap.size := by simpa [zsK, ZS.own] using hk
  have g2 := (h3.blocks k hk2).1
  omega
set_option maxRecDepth 100000 in
set_option maxHeartbeats 8000000 in
theorem LawNil_any (w : World) (a : Option Addr) (cap : Nat) (l : List CallD) (hl : CallsAt w a l) (hn : l.length ≤ 4611686018427387904) (hf : CallsFit l) :
    Calls Try.prog 5 #[.slice a l.length cap] w fun e w' => e = .returned (.bool true) ∧ Below w.heap.size w w' := by
  have HL := hid hl
  have HF := hid hf
  clear hl hf
  go_enter Try.func5, Try.ntmps5
  go_wp2_with fail
  refine (few_any w a cap l HL.out hn).mono ?_
  rintro e w0 ⟨b, rfl, rfl, hb⟩
  cases b with
  | false =>
    go_wp2_with fail
    refine (awake_any _).mono ?_
    rintro e wz ⟨rfl, hbz⟩
    have HZ := hid hbz
    clear hbz
    go_wp2_with fail
    go_ret
    exact ⟨rfl, HZ.out⟩
  | true =>
    have HFEW := hid (hb rfl)
    clear hb
    go_wp2_with fail
    refine (TwoZ.new w0).mono ?_
    rintro e w2 ⟨rfl, ht⟩
    have HT := hid ht
    have hg0 : (zab false 0).good := good0 0 (by omega)
    have HG0 := hid hg0
    have HD0 : Hid (zab false 0).tidy := fun h => rfl
    clear ht hg0
    generalize w0.heap.size + 1 = B at *
    generalize zab false 0 = a0 at *
    go_wp2_with fail
    go_loopw [6] (fun i wr => ∃ (k : Nat) (ta : Ab), k ≤ l.length ∧ i = .int .i64 k ∧ Hid (TwoZ w0 w0.heap.size B ta ta wr) ∧ Hid ta.good ∧ Hid ta.tidy) (fun i _ => l.length - (intOf i).toNat)
    case atStart => exact ⟨0, _, by omega, rfl, HT.out, HG0.out, HD0.out⟩
    case round =>
      obtain ⟨k, ta, hk, rfl, HX, HTG, HTD⟩ := hrel
      rcases Nat.lt_or_ge k l.length with hlt | hge
      · obtain ⟨b, o, rfl, hb, hc⟩ : ∃ b o, a = some ⟨b, o, none⟩ ∧ b < wr.heap.size ∧ ∀ i (h : i < l.length), CellsAt wr b (o + i * 6) l[i].cells := by
          rcases HL.out.below HX.out.below with h | h
          · rw [h] at hlt; cases hlt
          · exact h
        have HFT := hid (call_fit HF.out HFEW.out k hlt)
        have HCK : Hid (∀ w', Below w0.heap.size w0 w' → CellsAt w' b (o + k * 6) l[k].cells) := by
          intro w' hb'
          rcases HL.out.below hb' with h | ⟨b2, o2, e2, h1, h2⟩
          · rw [h] at hlt; cases hlt
          · injection e2 with e2
            injection e2 with e2 e3
            subst e2 e3
            exact h2 k hlt
        generalize l[k] = c at *
        clear hc
        obtain ⟨op, nm, tx, st, cn, kept⟩ := c
        have HC : Hid (∀ w', Below w0.heap.size w0 w' → CellsAt w' b (o + k * 6) [.int .i64 op, .string nm, .string tx, .int .i64 st, .int .i64 cn, .int .u64 kept]) := HCK.out
        clear HCK
        have q := cells6 (HC.out wr HX.out.below)
        have hkI : (k : Int) < (l.length : Int) := by omega
        have HFN := hid (HX.out.fine HTG.out HTD.out)
        have HUP := hid (HX.out.up HTG.out (⟨op, nm, tx, st, cn, kept⟩ : CallD) HFT.out.n)
        have HTY := hid (HTD.out.call (⟨op, nm, tx, st, cn, kept⟩ : CallD))
        have HNE : Hid (nilErr op = if 0 ≤ op ∧ op ≤ 5 then 5 else 0) := rfl
        go_wp2_with fail
        refine (donil_any wr op nm tx st cn kept).mono ?_
        generalize nilErr op = er at *
        rintro e w3 ⟨rfl, hb3⟩
        have HX3 := hid (HX.out.more hb3)
        clear hb3 HX q hb
        go_upto_region 9 with fail
        have HR7 : Hid (Row (w3.alloc (.cells #[.string ⟨#[]⟩, .int .i64 er] 37)) w3.heap.size [.string ⟨#[]⟩, .int .i64 er] 37) := Row.at w3 [.string ⟨#[]⟩, .int .i64 er] _
        have HX4 := hid (HX3.out.more ((Below.refl _ w3).alloc (Nat.le_refl _) (.cells #[.string ⟨#[]⟩, .int .i64 er] 37)))
        clear HX3
        generalize w3.alloc (.cells #[.string ⟨#[]⟩, .int .i64 er] 37) = x at *
        generalize w3.heap.size = b7 at *
        have q := cells6 (HC.out x HX4.out.below)
        have q7 := Row.two HR7.out
        have z7 := HR7.out.lt
        have HCALL := hid ((HX4.out.more (Below.refl _ _).drew).call HTG.out (⟨op, nm, tx, st, cn, kept⟩ : CallD) HFT.out)
        have HMOD := hid (fun (b : Ab) (y : World) (h : TwoZ w0 w0.heap.size B b ta y) => h.model HFN.out (⟨op, nm, tx, st, cn, kept⟩ : CallD) HFT.out)
        have hup := HUP.out.1
        have hty := HTY.out
        clear HUP HTY
        generalize ta.call (⟨op, nm, tx, st, cn, kept⟩ : CallD) = res at *
        obtain ⟨⟨rt, re⟩, tb⟩ := res
        simp only at hup hty
        have HTG2 := hid hup
        have HTD2 := hid hty
        clear hup hty
        have hop : (op < 0 ∧ er = 0) ∨ (5 < op ∧ er = 0) ∨ (0 ≤ op ∧ op ≤ 5 ∧ er = 5) := by
          rw [HNE.out]
          by_cases h : 0 ≤ op ∧ op ≤ 5
          · rw [if_pos h]; exact .inr (.inr ⟨h.1, h.2, rfl⟩)
          · rw [if_neg h]; omega
        clear HNE
        rcases hop with ⟨ho, rfl⟩ | ⟨ho, rfl⟩ | ⟨ho, ho5, rfl⟩
        all_goals
          try (have ho1 : 0 ≤ op := by omega)
          go_wp2_with (first
            | (go_at_call 19; refine (nilList_any _).mono ?_; rintro e w5 ⟨rfl, rfl⟩)
            | (go_at_call 20; refine (nilUsed_any _).mono ?_; rintro e w5 ⟨rfl, rfl⟩)
            | (go_at_call 21; refine (nilPeak_any _).mono ?_; rintro e w5 ⟨rfl, rfl⟩))
          go_region_with (first
            | (go_at_call 16; refine HCALL.out.mono ?_; rintro e y ⟨rfl, ht⟩; have HT1 := hid ht; have q1 := cells6 (HC.out y ht.below); clear ht)
            | (go_at_call 17; refine (HMOD.out _ _ HT1.out).mono ?_; rintro e y2 ⟨rfl, ht⟩; have HT2 := hid ht; clear ht)
            | (go_at_call 18; refine (samez_any w0 _ _ _ _ HT2.out HTG2.out).mono ?_; rintro e y3 ⟨rfl, ht⟩; have HT3 := hid ht; clear ht))
          all_goals
            go_wp2_with fail
            case roundEnd =>
              refine ⟨⟨k + 1, tb, hlt, rfl, HT3.out, HTG2.out, HTD2.out⟩, ?_⟩
              show l.length - ((k : Int) + 1).toNat < l.length - (k : Int).toNat
              omega
      · obtain rfl : k = l.length := by omega
        go_wp2_with fail
        refine (awake_any _).mono ?_
        rintro e wz ⟨rfl, hbz⟩
        have HZ := hid (HX.out.below.trans (hbz.mono HX.out.below.size))
        clear hbz
        go_wp2_with fail
        go_ret
        exact ⟨rfl, HZ.out⟩
end Go.Proofs.Ytnncbbfbnccnbaa
