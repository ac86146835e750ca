/- The law StoreCalls: its walk answers true. -/
import Derived.Test.YtnncbbfbnccnbaaTwoR
import Derived.Test.YtnncbbfbnccnbaaFilled
import Derived.Deep.RegionWith
namespace Go.Proofs.Ytnncbbfbnccnbaa
open Go.RowKit Go.Maps Go.Sort
attribute [local go_sem] gives givesUpon

set_option maxRecDepth 100000 in
set_option maxHeartbeats 8000000 in
theorem LawCalls_any (w : World) (n : Int) (a : Option Addr) (cap : Nat) (l : List CallD) (hl : CallsAt w a l) (hn : l.length ≤ 4611686018427387904) (hf : CallsFit l) :
    Calls Try.prog 4 #[.int .i64 n, .slice a l.length cap] w fun e w' => e = .returned (.bool true) ∧ Below w.heap.size w w' := by
  have HL := hid hl
  have HF := hid hf
  clear hl hf
  go_enter Try.func4, Try.ntmps4
  go_wp2_with fail
  refine (few_any w a cap l HL.out hn).mono ?_
  rintro e w0 ⟨b, rfl, rfl, hb⟩
  cases b with
  | false =>
    go_wp2_with fail
    refine (awake_any _).mono ?_
    rintro e wz ⟨rfl, hbz⟩
    have HZ := hid hbz
    clear hbz
    go_wp2_with fail
    go_ret
    exact ⟨rfl, HZ.out⟩
  | true =>
    have HFEW := hid (hb rfl)
    clear hb
    go_wp2_with fail
    refine (One.new' n _).mono ?_
    rintro e w1 ⟨rfl, ho⟩
    have HO := hid ho
    have hg0 := good0 (min (max n 0) 262144) (by omega)
    have HG0 := hid hg0
    clear ho hg0
    go_wp2_with fail
    refine (TwoR.new HO.out (n := n)).mono ?_
    rintro e w2 ⟨rfl, ht⟩
    have HT := hid ht
    clear ht HO
    generalize w1.heap.size = B at *
    generalize min (max n 0) 262144 = lim at *
    have HD0 : Hid (Ab.mk lim 0 0 [] false 0).tidy := fun h => rfl
    generalize Ab.mk lim 0 0 [] false 0 = a0 at *
    go_wp2_with fail
    go_loopw [7] (fun i wr => ∃ (k : Nat) (ta : Ab), k ≤ l.length ∧ i = .int .i64 k ∧ Hid (TwoR w0 (w0.heap.size + 1) B ta ta wr) ∧ Hid ta.good ∧ Hid ta.tidy) (fun i _ => l.length - (intOf i).toNat)
    case atStart => exact ⟨0, _, by omega, rfl, HT.out, HG0.out, HD0.out⟩
    case round =>
      obtain ⟨k, ta, hk, rfl, HX, HTG, HTD⟩ := hrel
      rcases Nat.lt_or_ge k l.length with hlt | hge
      · obtain ⟨b, o, rfl, hb, hc⟩ : ∃ b o, a = some ⟨b, o, none⟩ ∧ b < wr.heap.size ∧ ∀ i (h : i < l.length), CellsAt wr b (o + i * 6) l[i].cells := by
          rcases HL.out.below HX.out.below with h | h
          · rw [h] at hlt; cases hlt
          · exact h
        have hck := hc k hlt
        have HFT := hid (call_fit HF.out HFEW.out k hlt)
        have HCK : Hid (∀ w', Below w0.heap.size w0 w' → CellsAt w' b (o + k * 6) l[k].cells) := by
          intro w' hb'
          rcases HL.out.below hb' with h | ⟨b2, o2, e2, h1, h2⟩
          · rw [h] at hlt; cases hlt
          · injection e2 with e2
            injection e2 with e2 e3
            subst e2 e3
            exact h2 k hlt
        generalize l[k] = c at *
        clear hc
        obtain ⟨op, nm, tx, st, cn, kept⟩ := c
        have HC : Hid (∀ w', Below w0.heap.size w0 w' → CellsAt w' b (o + k * 6) [.int .i64 op, .string nm, .string tx, .int .i64 st, .int .i64 cn, .int .u64 kept]) := HCK.out
        clear HCK hck
        have q := cells6 (HC.out wr HX.out.below)
        have hkI : (k : Int) < (l.length : Int) := by omega
        have HFN := hid (HX.out.fine HTG.out HTD.out)
        have HUP := hid (HX.out.up HTG.out (⟨op, nm, tx, st, cn, kept⟩ : CallD) HFT.out.n)
        have HTY := hid (HTD.out.call (⟨op, nm, tx, st, cn, kept⟩ : CallD))
        have HAD := hid (HX.out.more (Below.refl _ _).drew)
        have HCALL := hid (HAD.out.call HTG.out (⟨op, nm, tx, st, cn, kept⟩ : CallD) HFT.out)
        have HMOD := hid (fun (b : Ab) (y : World) (h : TwoR w0 (w0.heap.size + 1) B b ta y) => h.model HFN.out (⟨op, nm, tx, st, cn, kept⟩ : CallD) HFT.out)
        have hup := HUP.out.1
        have hty := HTY.out
        clear HUP HTY
        generalize ta.call (⟨op, nm, tx, st, cn, kept⟩ : CallD) = res at *
        obtain ⟨⟨rt, re⟩, tb⟩ := res
        simp only at hup hty
        have HTG2 := hid hup
        have HTD2 := hid hty
        clear hup hty
        go_upto_region 7 with fail
        go_region_with (first
          | (go_at_call 16; refine HCALL.out.mono ?_; rintro e y ⟨rfl, ht⟩; have HT1 := hid ht; have q1 := cells6 (HC.out y ht.below); clear ht)
          | (go_at_call 17; refine (HMOD.out _ _ HT1.out).mono ?_; rintro e y2 ⟨rfl, ht⟩; have HT2 := hid ht; clear ht)
          | (go_at_call 18; refine (same_any w0 _ _ _ _ HT2.out HTG2.out).mono ?_; rintro e y3 ⟨rfl, ht⟩; have HT3 := hid ht; clear ht))
        all_goals
          go_wp2_with fail
          case roundEnd =>
            refine ⟨⟨k + 1, tb, hlt, rfl, HT3.out, HTG2.out, HTD2.out⟩, ?_⟩
            show l.length - ((k : Int) + 1).toNat < l.length - (k : Int).toNat
            omega
      · obtain rfl : k = l.length := by omega
        go_wp2_with fail
        refine (awake_any _).mono ?_
        rintro e wz ⟨rfl, hbz⟩
        have HZ := hid (HX.out.below.trans (hbz.mono HX.out.below.size))
        clear hbz
        go_wp2_with fail
        go_ret
        exact ⟨rfl, HZ.out⟩
end Go.Proofs.Ytnncbbfbnccnbaa
