/- The program of layer 9: Parses. -/
import Derived.Test.YthnpbopnpdlmnaaDoorA42
import Derived.Test.YthnpbopnpdlmnaaDoorA19
import Derived.Test.YthnpbopnpdlmnaaDoorA21
import Derived.Test.YthnpbopnpdlmnaaDoorA17
import Derived.Test.YthnpbopnpdlmnaaDoorA25
import Derived.Deep.Upon
import Derived.ArgAppend
import Derived.Test.YthnpbopnpdlmnaaDoorA16
import Derived.Test.YthnpbopnpdlmnaaDoorA11
import Derived.Test.YthnpbopnpdlmnaaDoorA03
namespace Go.Proofs.YthnpbopnpdlmnaaDoor
open Go.RowKit
attribute [local go_sem] gives givesUpon

set_option maxRecDepth 100000 in
set_option maxHeartbeats 32000000 in
theorem PParses_any (w : World) (t : Re) (cs : List Value) (s : ByteArray) (at_ : Int) (lines : Bool) (hin : t.In w cs) (hsz : t.size ≤ 20) (hs : s.size ≤ 1000000) (ht : Tabs9 w) :
    Calls Tryd.prog 7 #[.agg cs.toArray, .string s, .int .i64 at_, .bool lines] w (ParsesPost w (parsesR t s at_ lines)) := by
  cases t with
  | mk p xs =>
  have hin2 := hin
  rw [Re.In] at hin2
  obtain ⟨ad, cap, rfl, -⟩ := hin2
  simp only [Pay.cells] at hin ⊢
  have hb1 : Below w.heap.size w (w.alloc (.cells #[.int .i64 p.op, .int .u64 p.set.a, .int .u64 p.set.b, .int .u64 p.set.c, .int .u64 p.set.d, .int .i64 p.lo, .int .i64 p.hi, .int .i64 p.gr, .slice ad xs.length cap] 28)) := (Below.refl _ _).alloc (Nat.le_refl _) _
  have HR := hid (Row.new (w := w) (cs := [.int .i64 p.op, .int .u64 p.set.a, .int .u64 p.set.b, .int .u64 p.set.c, .int .u64 p.set.d, .int .i64 p.lo, .int .i64 p.hi, .int .i64 p.gr, .slice ad xs.length cap]) (T := 28) rfl)
  have HIN := hid hin
  have HB1 := hid hb1
  have HT := hid ht
  have q0 := HR.out.c9
  have HCK := hid (pcheck_any (w.alloc (.cells #[.int .i64 p.op, .int .u64 p.set.a, .int .u64 p.set.b, .int .u64 p.set.c, .int .u64 p.set.d, .int .i64 p.lo, .int .i64 p.hi, .int .i64 p.gr, .slice ad xs.length cap] 28)) (.mk p xs) [.int .i64 p.op, .int .u64 p.set.a, .int .u64 p.set.b, .int .u64 p.set.c, .int .u64 p.set.d, .int .i64 p.lo, .int .i64 p.hi, .int .i64 p.gr, .slice ad xs.length cap] s at_ (hin.below hb1) hsz hs)
  clear hin hb1 ht
  go_enter Tryd.func7, Tryd.ntmps7
  go_wp2_with fail
  refine HCK.out.mono ?_
  rintro e z ⟨rfl, hb⟩
  have HZ := hid (⟨HR.out.below hb HR.out.lt, HB1.out.trans (hb.mono HB1.out.size)⟩ : Row z w.heap.size [.int .i64 p.op, .int .u64 p.set.a, .int .u64 p.set.b, .int .u64 p.set.c, .int .u64 p.set.d, .int .i64 p.lo, .int .i64 p.hi, .int .i64 p.gr, .slice ad xs.length cap] 28 ∧ Below w.heap.size w z)
  clear hb q0 HCK HR HB1
  obtain ⟨er, her⟩ : ∃ er, er = chk (.mk p xs) s at_ := ⟨_, rfl⟩
  have HER := hid her
  rw [← her]
  clear her
  by_cases he : er = 0
  case neg =>
    have hp : parsesR (.mk p xs) s at_ lines = ([], er) := by unfold parsesR; rw [← HER.out, if_pos he]
    have HPR := hid hp
    clear hp HER
    go_wp2_with fail
    go_ret2
    rw [HPR.out]
    exact ⟨none, 0, rfl, HZ.out.2, .inl ⟨rfl, rfl⟩⟩
  have hc : chk (.mk p xs) s at_ = 0 := by rw [← HER.out, he]
  obtain ⟨h1, h2, h3⟩ := chk_zero hc
  obtain ⟨f, rfl⟩ : ∃ f : Nat, at_ = f := ⟨at_.toNat, by omega⟩
  obtain ⟨ok, hg9, -⟩ := Re.ok_err h1
  have hrep := Re.reps_err h1
  have hf : f ≤ s.size := by omega
  have hpr : parsesR (.mk p xs) s f lines = match parses s.data.toList lines (.mk p xs) f (unsetAll (Re.mk p xs).groups) with | none => ([], 11) | some l => (l, 0) := by
    unfold parsesR; rw [if_neg (by simp [hc])]; rfl
  have hbm : Below w.heap.size w (z.alloc (.cells #[.string s, .bool lines] 67)) := HZ.out.2.alloc HZ.out.2.size _
  have hall := pall_any (z.alloc (.cells #[.string s, .bool lines] 67)) p xs [.int .i64 p.op, .int .u64 p.set.a, .int .u64 p.set.b, .int .u64 p.set.c, .int .u64 p.set.d, .int .i64 p.lo, .int .i64 p.hi, .int .i64 p.gr, .slice ad xs.length cap] z.heap.size s lines f (HIN.out.below hbm) ok hrep hg9 hsz hs (Row.new rfl) hf (HT.out.on hbm)
  have hsl : s.data.toList.length = s.size := by rw [Array.length_toList]; rfl
  have hlen := fun l (h : parses s.data.toList lines (.mk p xs) f (unsetAll (Re.mk p xs).groups) = some l) => parses_len ok (by rw [hsl]; exact hf) (by rw [hsl]; exact unsetAll_ok _ _) h
  have hpok := fun l (h : parses s.data.toList lines (.mk p xs) f (unsetAll (Re.mk p xs).groups) = some l) => parses_ok s.data.toList lines _ (.mk p xs) f _ l ok (by rw [hsl]; exact hf) (by rw [hsl]; exact unsetAll_ok _ _) h
  obtain ⟨r, hr⟩ : ∃ r, r = parses s.data.toList lines (.mk p xs) f (unsetAll (Re.mk p xs).groups) := ⟨_, rfl⟩
  rw [← hr] at hpr hall hlen hpok
  obtain ⟨N, hN⟩ : ∃ N, N = (Re.mk p xs).groups := ⟨_, rfl⟩
  rw [← hN] at hpok hg9
  have HALL := hid hall
  have HPR := hid hpr
  have HLEN := hid hlen
  have HPOK := hid hpok
  have q0 := (HZ.out.1.alloc (.cells #[.string s, .bool lines] 67)).c9
  have HBM := hid hbm
  subst he
  clear hc h1 h2 h3 ok hrep hf hpr hbm hall hsl hlen hpok hr hN HER
  go_wp2_with fail
  refine HALL.out.mono ?_
  rintro e z2 ⟨hb2, a9, c9, rfl, hps⟩
  have HB2 := hid (HBM.out.trans (hb2.mono HBM.out.size))
  clear q0 hb2
  cases r with
  | none =>
    clear hps
    simp only [Option.isSome_none, Option.getD_none, List.length_nil]
    go_wp2_with fail
    go_ret2
    rw [HPR.out]
    exact ⟨none, 0, rfl, HB2.out, .inl ⟨rfl, rfl⟩⟩
  | some l =>
    simp only [Option.isSome_some, Option.getD_some] at hps ⊢
    have hl4 := HLEN.out l rfl
    obtain ⟨n, hnn⟩ : ∃ n, n = l.length := ⟨_, rfl⟩
    have HNN := hid hnn
    rw [← hnn] at hps hl4 ⊢
    have HPS := hid hps
    obtain ⟨ZS, hZS⟩ : ∃ ZS, ZS = z2.heap.size := ⟨_, rfl⟩
    have HZS := hid hZS
    clear hps hnn hZS
    go_wp2_with fail
    go_loopw [13, 37] (fun v13 v37 wr => ∃ (j : Nat) (na : Option Addr) (nn nc : Nat), v13 = .slice na nn nc ∧ v37 = .int .i64 j ∧ j ≤ n ∧ Hid (nn = (l.take j).length ∧ OwnP wr ZS (.slice na nn nc) (l.take j) ∧ Below ZS z2 wr)) (fun _ v37 _ => n - (intOf v37).toNat)
    case atStart => exact ⟨0, none, 0, 0, rfl, rfl, Nat.zero_le _, by simp, OwnP.nil _ _, Below.refl _ _⟩
    case round =>
      obtain ⟨j, na, nn, nc, rfl, rfl, hj, HX⟩ := hrel
      have hbz : Below z2.heap.size z2 wr := by rw [← HZS.out]; exact HX.out.2.2
      have HPW := hid (HPS.out.below hbz)
      have HBZ := hid hbz
      clear hbz
      by_cases hlt : j < n
      · have hltJ : (j : Int) < (n : Int) := by omega
        obtain ⟨b, cc, u1, u2, va2, vc2, hq, ev, hbl, -, -, p0, p1, hsq⟩ := HPW.out.get (k := j) (by have := HNN.out; omega)
        injection ev with e1 e2 e3
        subst e1; subst e3
        clear e2
        have hpk := HPOK.out l rfl (u1, u2) (List.mem_of_getElem? hq)
        have hul : u2.length ≤ 9 := by have := hpk.2.2.1; dsimp only at this; omega
        have hal : Below wr.heap.size wr (wr.alloc (.cells #[.int .i64 u1, .slice va2 u2.length vc2] 71)) := (Below.refl _ _).alloc (Nat.le_refl _) _
        have HY := hid (⟨Row.new (w := wr) (cs := [.int .i64 u1, .slice va2 u2.length vc2]) (T := 71) rfl, hsq.below hal, hal⟩ : Row (wr.alloc (.cells #[.int .i64 u1, .slice va2 u2.length vc2] 71)) wr.heap.size _ _ ∧ SpQ _ _ _ ∧ _)
        have HC := hid (fun (x : World) (hx : Grow ((wr.alloc (.cells #[.int .i64 u1, .slice va2 u2.length vc2] 71))).drew x) => (HY.out.1.grow hx).two9)
        have HCL := hid (fun (x : World) (hx : Grow ((wr.alloc (.cells #[.int .i64 u1, .slice va2 u2.length vc2] 71))).drew x) => pclones_any x va2 vc2 u2 (HY.out.2.1.below (grow_below hx)) hul)
        have HQ := hid hq
        clear hq hpk hal hsq
        go_upto_region 11 with fail
        clear p0 p1
        refine wp_region_inv 8 (Grow) (by kernel_rfl) (by kernel_rfl) (Grow.refl) (fun _ _ _ => Grow.trans) ?_
        simp only [fill, dstOf, Act.put, List.take_succ_cons, List.take_zero, List.getElem?_toArray, List.getElem?_cons_zero, List.getElem?_cons_succ, Option.bind_some, List.setIfInBounds_toArray, List.set_cons_zero, List.set_cons_succ]
        refine Plan.det 1 rfl (Grow.refl) ?_
        apply Exists.intro
        refine ⟨fun vs x hR hF K hK => ?_, ?_⟩
        · clear hF
          go_simp
          exact hK _ _ (Grow.refl _) rfl
        refine Plan.det 2 rfl (Grow.refl) ?_
        apply Exists.intro
        refine ⟨fun vs x hR hF K hK => ?_, ?_⟩
        · clear hF
          go_simp
          exact hK _ _ (Grow.refl _) rfl
        refine Plan.det 3 rfl (Grow.refl) ?_
        apply Exists.intro
        refine ⟨fun vs x hR hF K hK => ?_, ?_⟩
        · have f1 := hF 0 _ _ rfl rfl; have hc := HC.out x hR; clear hF
          go_simp
          exact hK _ _ (Grow.refl _) rfl
        refine Plan.det 4 rfl (Grow.refl) ?_
        apply Exists.intro
        refine ⟨fun vs x hR hF K hK => ?_, ?_⟩
        · clear hF
          go_simp
          exact hK _ _ (Grow.refl _) rfl
        refine Plan.det 5 rfl (Grow.refl) ?_
        apply Exists.intro
        refine ⟨fun vs x hR hF K hK => ?_, ?_⟩
        · have f3 := hF 0 _ _ rfl rfl; have hc := HC.out x hR; clear hF
          go_simp
          exact hK _ _ (Grow.refl _) rfl
        refine Plan.rel 6 rfl (Grow.refl) (fun v y => ∃ (a2 : Option Addr) (c2 : Nat), v = .slice a2 u2.length c2 ∧ SpQ y (.slice a2 u2.length c2) u2) (fun v y1 y2 hR ⟨a2, c2, h1, h2⟩ => ⟨a2, c2, h1, h2.below hR⟩) (fun vs x hR hF K hK => ?_) ?_
        · have f4 := hF 0 _ _ rfl rfl
          go_simp
          refine (HCL.out x hR).mono ?_
          rintro e x1 ⟨a2, c2, rfl, hbe, h1⟩
          exact ⟨_, rfl, hK _ _ hbe ⟨a2, c2, rfl, h1⟩⟩
        refine Plan.rel 7 rfl (Grow.refl) (fun v y => ∃ (a2 : Option Addr) (c2 : Nat), v = .agg #[.int .i64 u1, .slice a2 u2.length c2] ∧ SpQ y (.slice a2 u2.length c2) u2) (fun v y1 y2 hR ⟨a2, c2, h1, h2⟩ => ⟨a2, c2, h1, h2.below hR⟩) (fun vs x hR hF K hK => ?_) ?_
        · have f2 := hF 3 _ _ rfl rfl; have f5 := hF 0 _ _ rfl rfl
          obtain ⟨a2, c2, e9, h9⟩ := f5
          simp only [e9] at *
          go_simp
          exact hK _ _ (Grow.refl _) ⟨a2, c2, rfl, h9⟩
        refine Plan.rel 8 rfl (Grow.refl) (fun v y => ∃ (b2 : Nat) (a2 : Option Addr) (c2 : Nat), v = .slice (some ⟨b2, 0, none⟩) 1 1 ∧ Row y b2 [.int .i64 u1, .slice a2 u2.length c2] 71 ∧ SpQ y (.slice a2 u2.length c2) u2) (fun v y1 y2 hR ⟨b2, a2, c2, h1, h2, h3⟩ => ⟨b2, a2, c2, h1, h2.below hR h2.lt, h3.below hR⟩) (fun vs x hR hF K hK => ?_) ?_
        · have f6 := hF 0 _ _ rfl rfl
          obtain ⟨a2, c2, e9, h9⟩ := f6
          simp only [e9] at *
          go_simp
          exact hK _ _ (Grow.alloc _ _) ⟨_, a2, c2, rfl, Row.at _ _ _, h9.below (Grow.alloc _ _)⟩
        refine Plan.nil (fun vs x hR hF => ?_)
        have f0 := hF 7 _ _ rfl; have f1 := hF 6 _ _ rfl; have f2 := hF 5 _ _ rfl; have f3 := hF 4 _ _ rfl; have f4 := hF 3 _ _ rfl; have f5 := hF 2 _ _ rfl; have f6 := hF 1 _ _ rfl; have f7 := hF 0 _ _ rfl
        clear hF
        simp only [f0, f1, f2, f3, f4]
        clear f0 f1 f2 f3 f4
        simp only [List.drop_succ_cons, List.drop_zero]
        obtain ⟨b2, a2, c2, e7, h7r, h7s⟩ := f7
        have hxb := HY.out.2.2.trans ((grow_below hR).mono HY.out.2.2.size)
        have HOX := hid (HX.out.2.1.below hxb)
        have HBX := hid (HX.out.2.2.trans (hxb.mono (by have h8 := HX.out.2.2.size; rw [HZS.out]; exact h8)))
        have HPL := hid (PsQ.lit (q := (u1, u2)) h7r h7s)
        have HLL : Hid ((l.take j).length + [((u1, u2) : Parse)].length ≤ 1000000) := by show _ ≤ _; rw [List.length_take]; simp; omega
        have HZX : Hid (ZS ≤ x.heap.size) := by have h8 := HBX.out.size; show _ ≤ _; rw [HZS.out]; exact h8
        simp only [e7]
        clear f5 f6 h7r h7s hxb HC HCL hR
        at_builtin
        refine wpList_append_ps rfl _ _ rfl ZS _ (l.take j) [(u1, u2)] _ _ rfl HOX.out rfl HPL.out HLL.out HZX.out ?_
        intro a' n9 c' w3 hn9 hown hg hnew
        have HN : Hid (n9 = (l.take (j + 1)).length ∧ OwnP w3 ZS (.slice a' n9 c') (l.take (j + 1)) ∧ Below ZS z2 w3) := by
          have e : l.take (j + 1) = l.take j ++ [(u1, u2)] := by rw [List.take_add_one, HQ.out]; rfl
          rw [e]
          exact ⟨hn9, hown, HBX.out.grown hg HZX.out (fun g hg' => (HOX.out.lt g hg').1)⟩
        clear hn9 hown hg hnew
        go_wp2_with fail
        exact ⟨⟨j + 1, a', n9, c', rfl, by rw [Int.natCast_add]; rfl, hlt, HN.out⟩, by simp [intOf]; omega⟩
      · have hje : j = n := by omega
        have hltJ : ¬ (j : Int) < (n : Int) := by omega
        have htk : l.take j = l := List.take_of_length_le (by have := HNN.out; omega)
        have hx := HX.out
        rw [htk] at hx
        have HX2 := hid hx
        clear hx htk hje HX
        go_wp2_with fail
        go_ret2
        rw [HPR.out]
        refine ⟨na, nc, by rw [← HX2.out.1]; rfl, HB2.out.trans (HX2.out.2.2.mono (by rw [HZS.out]; exact HB2.out.size)), ?_⟩
        have h9 := HX2.out.2.1.psq
        rw [HX2.out.1] at h9
        exact h9.mono fun b _ hb => Nat.le_trans HB2.out.size (by rw [← HZS.out]; exact hb.1)
end Go.Proofs.YthnpbopnpdlmnaaDoor

/- How many spans are handed out. -/
namespace Go.Proofs.YthnpbopnpdlmnaaDoor
open Go.RowKit

end Go.Proofs.YthnpbopnpdlmnaaDoor

/- The parses at an offset and the hits from there, plainly. -/
namespace Go.Proofs.YthnpbopnpdlmnaaDoor
open Go.RowKit

theorem chk_range {t : Re} {s : ByteArray} {at_ : Int} (he : t.err = 0) : (chk t s at_ = 0 ∧ 0 ≤ at_ ∧ at_ ≤ s.size) ∨ (chk t s at_ = 2 ∧ (at_ < 0 ∨ (s.size : Int) < at_)) := by
  unfold chk
  rw [if_neg (by simpa using he)]
  by_cases h : at_ < 0 ∨ (s.size : Int) < at_
  · rw [if_pos h]; exact .inr ⟨rfl, h⟩
  · rw [if_neg h]; exact .inl ⟨rfl, by omega, by omega⟩
theorem parses_hit {t : Re} {lines : Bool} {s : ByteArray} {f : Nat} (hc : t.compiled.2 = 0) (hf : f ≤ s.size) {l : List Parse} (hl : parses s.data.toList lines t f (unsetAll t.groups) = some l) :
    (∀ j, f ≤ j → j ≤ s.size → (hit ⟨t.compiled.1, lines, s.data.toList⟩ f j ↔ Has l j)) ∧ (∀ j, Has l j → f ≤ j ∧ j ≤ s.size) := by
  have hsl : s.data.toList.length = s.size := by rw [Array.length_toList]; rfl
  obtain ⟨he, hx, hL, hsz, hb⟩ := Re.compiled_zero hc
  have hnob := Re.nob_err he hb
  have hE := parses_E s.data.toList lines t f _ l hnob (by omega) hl
  refine ⟨fun j h1 h2 => by rw [hit_E hc h1 (by omega), hE], fun j hj => ?_⟩
  have := Re.E_le s.data.toList lines t f j (by omega) ((hE j).1 hj)
  omega
end Go.Proofs.YthnpbopnpdlmnaaDoor

/- The sets of a program are as words, plainly. -/
namespace Go.Proofs.YthnpbopnpdlmnaaDoor
open Go.RowKit

mutual
def Re.wfs : Re → Prop
  | .mk p xs => p.set.wf ∧ Re.wfsAll xs
def Re.wfsAll : List Re → Prop
  | [] => True
  | x :: xs => x.wfs ∧ Re.wfsAll xs
end
mutual
theorem Re.In.wfs {w : World} : ∀ (t : Re) (cs : List Value), t.In w cs → t.wfs
  | .mk p xs, cs, h => by
    rw [Re.In] at h
    obtain ⟨ad, cap, -, hwf, -, -, -, hall⟩ := h
    rw [Re.wfs]
    exact ⟨hwf.set, Re.AllIn.wfs xs ad 0 hall⟩
theorem Re.AllIn.wfs {w : World} : ∀ (xs : List Re) (ad : Option Addr) (k : Nat), Re.AllIn w xs ad k → Re.wfsAll xs
  | [], _, _, _ => by rw [Re.wfsAll]; trivial
  | x :: xs, ad, k, h => by
    rw [Re.AllIn] at h
    obtain ⟨⟨b, o, cs, -, -, h1⟩, h2⟩ := h
    rw [Re.wfsAll]
    exact ⟨Re.In.wfs x cs h1, Re.AllIn.wfs xs ad (k + 9) h2⟩
end
theorem Re.wfsAll_of : ∀ (xs : List Re), (∀ a, a ∈ xs → a.wfs) → Re.wfsAll xs
  | [], _ => by rw [Re.wfsAll]; trivial
  | t :: ts, h => by rw [Re.wfsAll]; exact ⟨h t (by simp), Re.wfsAll_of ts fun a ha => h a (by simp [ha])⟩
theorem Re.node_wfs (op : Int) {xs : List Re} (h : ∀ a, a ∈ xs → a.wfs) : (Re.mk (Pay.of op) xs).wfs := by
  rw [Re.wfs]
  exact ⟨Cs.none_wf, Re.wfsAll_of xs h⟩
theorem Re.rept_wfs {x : Re} (h : x.wfs) (lo hi : Int) : (x.rept lo hi).wfs := by
  unfold Re.rept
  rw [Re.wfs]
  exact ⟨Cs.none_wf, Re.wfsAll_of _ fun a ha => by rw [List.mem_singleton.1 ha]; exact h⟩
theorem Re.counted_wfs {x : Re} (h : x.wfs) (lo hi : Int) : (x.counted lo hi).wfs := by
  unfold Re.counted
  split
  · exact Re.rept_wfs h lo hi
  split
  · exact Re.node_wfs 1 fun a ha => by cases ha
  split
  · exact h
  split
  · exact Re.node_wfs 3 fun a ha => by rw [(List.mem_replicate.1 ha).2]; exact h
  split
  · refine Re.node_wfs 3 fun a ha => ?_
    rcases List.mem_append.1 ha with ha | ha
    · rw [(List.mem_replicate.1 ha).2]; exact h
    · rw [List.mem_singleton.1 ha]; exact Re.rept_wfs h _ _
  · refine Re.node_wfs 3 fun a ha => ?_
    rcases List.mem_append.1 ha with ha | ha
    · rw [(List.mem_replicate.1 ha).2]; exact h
    · rw [(List.mem_replicate.1 ha).2]; exact Re.rept_wfs h _ _
mutual
theorem Re.expand_wfs : ∀ (t : Re), t.wfs → t.expand.wfs
  | .mk p xs, h => by
    rw [Re.wfs] at h
    have IH := Re.expands_wfs xs h.2
    rw [Re.expand]
    split
    · exact Re.node_wfs 1 fun a ha => by cases ha
    split
    · refine Re.counted_wfs ?_ _ _
      cases hx : Re.expands xs with
      | nil => exact Re.node_wfs 0 fun a ha => by cases ha
      | cons y ys => rw [hx, Re.wfsAll] at IH; exact IH.1
    · rw [Re.wfs]; exact ⟨h.1, IH⟩
theorem Re.expands_wfs : ∀ (xs : List Re), Re.wfsAll xs → Re.wfsAll (Re.expands xs)
  | [], _ => by rw [Re.expands, Re.wfsAll]; trivial
  | x :: xs, h => by
    rw [Re.wfsAll] at h
    rw [Re.expands, Re.wfsAll]
    exact ⟨Re.expand_wfs x h.1, Re.expands_wfs xs h.2⟩
end
mutual
theorem Re.gen_wf : ∀ (t : Re) (n : Nat) (i : Inst), t.wfs → i ∈ t.gen n → i.set.wf
  | .mk p xs, n, i, h, hi => by
    rw [Re.wfs] at h
    have G := fun m => Re.gens_wf xs m i h.2
    have A := fun m k => Re.galt_wf xs m k i h.2
    rw [Re.gen] at hi
    split at hi
    · have := List.mem_singleton.1 hi; subst this; exact h.1
    split at hi
    · have := List.mem_singleton.1 hi; subst this; exact Cs.none_wf
    split at hi
    · have := List.mem_singleton.1 hi; subst this; exact Cs.none_wf
    split at hi
    · exact A _ _ hi
    split at hi
    · split at hi
      · rcases List.mem_append.1 hi with hi | hi
        · exact G _ hi
        · have := List.mem_singleton.1 hi; subst this; exact Cs.none_wf
      · rcases List.mem_cons.1 hi with rfl | hi
        · exact Cs.none_wf
        · rcases List.mem_append.1 hi with hi | hi
          · exact G _ hi
          · split at hi
            · have := List.mem_singleton.1 hi; subst this; exact Cs.none_wf
            · cases hi
    · exact G _ hi
theorem Re.gens_wf : ∀ (xs : List Re) (n : Nat) (i : Inst), Re.wfsAll xs → i ∈ Re.gens xs n → i.set.wf
  | [], n, i, _, hi => by rw [Re.gens] at hi; cases hi
  | x :: xs, n, i, h, hi => by
    rw [Re.wfsAll] at h
    rw [Re.gens] at hi
    rcases List.mem_append.1 hi with hi | hi
    · exact Re.gen_wf x n i h.1 hi
    · exact Re.gens_wf xs _ i h.2 hi
theorem Re.galt_wf : ∀ (xs : List Re) (n k : Nat) (i : Inst), Re.wfsAll xs → i ∈ Re.galt xs n k → i.set.wf
  | [], n, k, i, _, hi => by rw [Re.galt] at hi; cases hi
  | x :: xs, n, k, i, h, hi => by
    rw [Re.wfsAll] at h
    have G := fun m => Re.gen_wf x m i h.1
    have A := fun m => Re.galt_wf xs m k i h.2
    rw [Re.galt] at hi
    split at hi
    · exact G _ hi
    · rcases List.mem_cons.1 hi with rfl | hi
      · exact Cs.none_wf
      · rcases List.mem_append.1 hi with hi | hi
        · rcases List.mem_append.1 hi with hi | hi
          · exact G _ hi
          · have := List.mem_singleton.1 hi; subst this; exact Cs.none_wf
        · exact A _ hi
end
theorem Re.compiled_wf {t : Re} (hc : t.compiled.2 = 0) (h : t.wfs) : ∀ k (hk : k < t.compiled.1.length), t.compiled.1[k].set.wf := by
  obtain ⟨he, hx, hL, -, -⟩ := Re.compiled_zero hc
  intro k hk
  have hm : t.compiled.1[k] ∈ t.compiled.1 := List.getElem_mem _
  generalize t.compiled.1[k] = i at hm ⊢
  rw [hL] at hm
  have hxe : t.expandR.1 = t.expand := by
    unfold Re.expandR at hx ⊢
    rw [if_neg (by simpa using he)] at hx ⊢
    split at hx
    · exact absurd (show (3 : Int) = 0 from hx) (by decide)
    · rename_i hw; rw [if_neg hw]
  rw [hxe] at hm
  rcases List.mem_append.1 hm with hm | hm
  · exact Re.gen_wf t.expand 0 i (Re.expand_wfs t h) hm
  · have := List.mem_singleton.1 hm; subst this; exact Cs.none_wf
end Go.Proofs.YthnpbopnpdlmnaaDoor

/- append of spans to one span just laid. -/
namespace Go.Proofs.YthnpbopnpdlmnaaDoor
open Go.RowKit

end Go.Proofs.YthnpbopnpdlmnaaDoor

/- The reference of layer 9: At and Leftmost. -/
namespace Go.Proofs.YthnpbopnpdlmnaaDoor
open Go.RowKit
attribute [local go_sem] gives givesUpon

end Go.Proofs.YthnpbopnpdlmnaaDoor

/- The laws of layer 9: few. -/
namespace Go.Proofs.YthnpbopnpdlmnaaDoor
open Go.RowKit
attribute [local go_sem] gives givesUpon

end Go.Proofs.YthnpbopnpdlmnaaDoor

/- The laws of layer 9: their helpers over trees (count, Small, anchored, closing), each as a plain function. -/
namespace Go.Proofs.YthnpbopnpdlmnaaDoor
open Go.RowKit
attribute [local go_sem] gives givesUpon

mutual
def Re.cnt : Re → Nat → Nat → Nat
  | .mk p xs, n, lv => if lv = 0 ∨ 6 < xs.length ∨ 4 < p.lo ∨ 4 < p.hi then n + 1 else Re.cnts xs n 1 (lv - 1)
def Re.cnts : List Re → Nat → Nat → Nat → Nat
  | [], _, k, _ => k
  | x :: xs, n, k, lv => if k ≤ n then Re.cnts xs n (k + x.cnt (n - k) lv) lv else k
end
mutual
theorem Re.cnt_le : ∀ (t : Re) (n lv : Nat), t.cnt n lv ≤ n + 1 ∧ (t.cnt n lv ≤ n → t.size = t.cnt n lv)
  | .mk p xs, n, lv => by
    rw [Re.cnt]
    split
    · exact ⟨Nat.le_refl _, fun h => absurd h (by omega)⟩
    · obtain ⟨h1, h2⟩ := Re.cnts_le xs n 1 (lv - 1) (by omega)
      exact ⟨h1, fun h => by rw [Re.size_mk]; have := h2 h; omega⟩
theorem Re.cnts_le : ∀ (xs : List Re) (n k lv : Nat), k ≤ n + 1 → Re.cnts xs n k lv ≤ n + 1 ∧ (Re.cnts xs n k lv ≤ n → k + Re.sizes xs = Re.cnts xs n k lv)
  | [], n, k, lv, hk => by rw [Re.cnts]; exact ⟨hk, fun _ => rfl⟩
  | x :: xs, n, k, lv, hk => by
    rw [Re.cnts]
    split
    · have h1 := Re.cnt_le x (n - k) lv
      have h2 := Re.cnts_le xs n (k + x.cnt (n - k) lv) lv (by omega)
      refine ⟨h2.1, fun h => ?_⟩
      have h3 := h2.2 h
      have h4 : Re.sizes (x :: xs) = x.size + Re.sizes xs := rfl
      have h5 := h1.2 (by omega)
      omega
    · rename_i h
      exact ⟨hk, fun h' => absurd h' h⟩
end
def Re.small (t : Re) (n : Nat) : Bool := decide (t.cnt n 8 ≤ n)
theorem Re.small_size {t : Re} {n : Nat} (h : t.small n = true) : t.size ≤ n := by
  unfold Re.small at h
  rw [decide_eq_true_eq] at h
  have := (Re.cnt_le t n 8).2 h
  omega
set_option maxRecDepth 100000 in
set_option maxHeartbeats 8000000 in
theorem cnt9_any (wb : World) (t : Re) : ∀ (w : World) (cs : List Value) (n lv : Nat), t.In wb cs → Below wb.heap.size wb w → n ≤ 1000 → lv ≤ 8 →
    Calls Tryd.prog 13 #[.agg cs.toArray, .int .i64 n, .int .i64 lv] w fun e w' => e = .returned (.int .i64 (t.cnt n lv : Nat)) ∧ Below w.heap.size w w' := by
  induction t using Re.ind with
  | h p xs ih =>
    intro w cs n lv hIn hbw hn hlv
    rw [Re.In] at hIn
    obtain ⟨ad, cap, rfl, hwf, hlc, hcm, hnil, hall⟩ := hIn
    have HIH := hid ih
    have HAL := hid hall
    have HBW := hid hbw
    clear ih hall hwf hbw
    simp only [Pay.cells]
    have hr0 := (Row.new (w := w) (cs := [.int .i64 p.op, .int .u64 p.set.a, .int .u64 p.set.b, .int .u64 p.set.c, .int .u64 p.set.d, .int .i64 p.lo, .int .i64 p.hi, .int .i64 p.gr, .slice ad xs.length cap]) (T := 28) rfl)
    have HR0 := hid hr0
    have q0 := hr0.c9
    have HAL0 := hid ((Below.refl w.heap.size w).alloc (Nat.le_refl _) (.cells #[.int .i64 p.op, .int .u64 p.set.a, .int .u64 p.set.b, .int .u64 p.set.c, .int .u64 p.set.d, .int .i64 p.lo, .int .i64 p.hi, .int .i64 p.gr, .slice ad xs.length cap] 28))
    clear hr0
    obtain ⟨res, hres⟩ : ∃ res, res = (Re.mk p xs).cnt n lv := ⟨_, rfl⟩
    rw [← hres]
    have HRES := hid hres
    rw [Re.cnt] at hres
    by_cases hbad : lv = 0 ∨ 6 < xs.length ∨ 4 < p.lo ∨ 4 < p.hi
    · rw [if_pos hbad] at hres
      subst hres
      by_cases h1 : lv = 0
      · subst h1
        go_enter Tryd.func13, Tryd.ntmps13
        go_wp2_with fail
        go_ret
        exact ⟨by simp, HAL0.out⟩
      · have d1 : ((lv : Int) == 0) = false := by simp; omega
        by_cases h2 : 6 < xs.length
        · have h2I : (6 : Int) < xs.length := by omega
          clear h1
          go_enter Tryd.func13, Tryd.ntmps13
          go_wp2_with fail
          go_ret
          exact ⟨by simp, HAL0.out⟩
        · have h2I : ¬ (6 : Int) < xs.length := by omega
          by_cases h3 : 4 < p.lo
          · clear h1
            go_enter Tryd.func13, Tryd.ntmps13
            go_wp2_with fail
            go_ret
            exact ⟨by simp, HAL0.out⟩
          · have h4 : 4 < p.hi := by omega
            clear h1
            go_enter Tryd.func13, Tryd.ntmps13
            go_wp2_with fail
            go_ret
            exact ⟨by simp, HAL0.out⟩
    · rw [if_neg hbad] at hres
      have HRS := hid hres
      clear hres HRES
      have d1 : ((lv : Int) == 0) = false := by simp; omega
      have h2 : ¬ 6 < xs.length := by omega
      have h2I : ¬ (6 : Int) < xs.length := by omega
      have h3 : ¬ 4 < p.lo := by omega
      have h4 : ¬ 4 < p.hi := by omega
      have hl0 : 0 < lv := by omega
      clear hbad
      go_enter Tryd.func13, Tryd.ntmps13
      go_wp2_with fail
      go_loopw [7, 8] (fun v i wr => ∃ (k j : Nat), k ≤ n + 1 ∧ j ≤ xs.length ∧ v = .int .i64 k ∧ i = .int .i64 j ∧ Hid ((Row wr w.heap.size [.int .i64 p.op, .int .u64 p.set.a, .int .u64 p.set.b, .int .u64 p.set.c, .int .u64 p.set.d, .int .i64 p.lo, .int .i64 p.hi, .int .i64 p.gr, .slice ad xs.length cap] 28 ∧ Below w.heap.size w wr) ∧ Re.cnts xs n 1 (lv - 1) = Re.cnts (xs.drop j) n k (lv - 1))) (fun _ i _ => xs.length - (intOf i).toNat)
      case atStart => exact ⟨1, 0, by omega, Nat.zero_le _, rfl, rfl, ⟨HR0.out, HAL0.out⟩, rfl⟩
      case round =>
        obtain ⟨k, j, hk, hj, rfl, rfl, HX0⟩ := hrel
        have HX := hid HX0.out.1
        have HKK := hid HX0.out.2
        clear HX0
        have q1 := HX.out.1.c9
        clear q0
        by_cases hlt : j < xs.length
        · have hdrop := List.drop_eq_getElem_cons hlt
          by_cases hkn : k ≤ n
          · have HBL : Hid (Below wb.heap.size wb wr) := HBW.out.trans (HX.out.2.mono HBW.out.size)
            obtain ⟨b, o, p', ad', n', cap', rfl, HC, HI0, hbb⟩ := HAL.out.kid HBL.out j hlt
            have HKN : Hid (Re.cnts xs n 1 (lv - 1) = Re.cnts (xs.drop (j + 1)) n (k + xs[j].cnt (n - k) (lv - 1)) (lv - 1) ∧ xs[j].cnt (n - k) (lv - 1) ≤ n - k + 1) := ⟨by have := HKK.out; rw [hdrop, Re.cnts, if_pos hkn] at this; exact this, (Re.cnt_le _ _ _).1⟩
            have hjI : (j : Int) < xs.length := by omega
            have hkI : (k : Int) ≤ n := by omega
            clear hdrop
            go_wp2_with (first | (with_reducible (refine wpList_load_agg rfl 28 _ rfl b (o + (j * 9)) rfl _ _ HC.out Tryd.underlying28 rfl (size_re9 _ _ _ _ _ _ _ _ _) ?_)))
            have H1 := HIH.out xs[j] (List.getElem_mem _) wr _ (n - k) (lv - 1) HI0.out HBL.out (by omega) (by omega)
            obtain ⟨r, hr⟩ : ∃ r, r = xs[j].cnt (n - k) (lv - 1) := ⟨_, rfl⟩
            rw [← hr] at H1 HKN
            clear hr
            rw [show ((n - k : Nat) : Int) = (n : Int) - k by omega, show ((lv - 1 : Nat) : Int) = (lv : Int) - 1 by omega] at H1
            refine H1.mono ?_
            clear H1
            rintro e w2 ⟨rfl, hb2⟩
            have hr9 : r ≤ n - k + 1 := HKN.out.2
            have HX2 := hid (⟨HX.out.1.below hb2 HX.out.1.lt, HX.out.2.trans (hb2.mono HX.out.2.size)⟩ : Row w2 _ _ _ ∧ Below _ _ w2)
            clear hb2
            go_wp2_with fail
            refine ⟨⟨k + r, j + 1, by omega, by omega, by go_num, by go_num, HX2.out, HKN.out.1⟩, ?_⟩
            simp [intOf]; omega
          · have hkI : ¬ (k : Int) ≤ n := by omega
            have hjI : (j : Int) < xs.length := by omega
            have HE : Hid (k = res) := by have := HKK.out; rw [hdrop, Re.cnts, if_neg hkn] at this; exact (HRS.out.trans this).symm
            clear hdrop
            go_wp2_with fail
            go_ret
            exact ⟨by rw [HE.out]; rfl, HX.out.2⟩
        · have hjI : ¬ (j : Int) < xs.length := by omega
          have HE : Hid (k = res) := by have := HKK.out; rw [List.drop_eq_nil_of_le (by omega), Re.cnts] at this; exact (HRS.out.trans this).symm
          go_wp2_with fail
          go_ret
          exact ⟨by rw [HE.out]; rfl, HX.out.2⟩
set_option maxHeartbeats 2000000 in
theorem SmallB_any (w : World) (t : Re) (cs : List Value) (n : Nat) (hin : t.In w cs) (hn : n ≤ 1000) :
    Calls Tryd.prog 4 #[.agg cs.toArray, .int .i64 n] w fun e w' => e = .returned (.bool (t.small n)) ∧ Below w.heap.size w w' := by
  obtain ⟨p, ad, m, c, rfl⟩ := Re.cells_shape hin
  have HI := hid hin
  have HB := hid ((Below.refl w.heap.size w).alloc (Nat.le_refl _) (.cells #[.int .i64 p.op, .int .u64 p.set.a, .int .u64 p.set.b, .int .u64 p.set.c, .int .u64 p.set.d, .int .i64 p.lo, .int .i64 p.hi, .int .i64 p.gr, .slice ad m c] 28))
  clear hin
  have hct := fun x hx => cnt9_any w t x #[.int .i64 p.op, .int .u64 p.set.a, .int .u64 p.set.b, .int .u64 p.set.c, .int .u64 p.set.d, .int .i64 p.lo, .int .i64 p.hi, .int .i64 p.gr, .slice ad m c].toList n 8 HI.out hx hn (by omega)
  obtain ⟨r, hr⟩ : ∃ r, r = t.cnt n 8 := ⟨_, rfl⟩
  have hsm : t.small n = decide (r ≤ n) := by unfold Re.small; rw [hr]
  rw [← hr] at hct
  rw [hsm]
  have HCT := hid hct
  clear hr hsm hct
  go_enter Tryd.func4, Tryd.ntmps4
  go_wp2_with fail
  refine (HCT.out _ HB.out).mono ?_
  rintro e w1 ⟨rfl, hb⟩
  have HB1 := hid (HB.out.trans (hb.mono (by simp)))
  clear hb
  by_cases h : (r : Int) ≤ n
  · have h2 : r ≤ n := by omega
    go_wp2_with fail
    go_ret
    exact ⟨by simp; omega, HB1.out⟩
  · have h2 : ¬ r ≤ n := by omega
    go_wp2_with fail
    go_ret
    exact ⟨by simp; omega, HB1.out⟩
end Go.Proofs.YthnpbopnpdlmnaaDoor

/- Instructions that a slice owns. -/
namespace Go.Proofs.YthnpbopnpdlmnaaDoor
open Go.RowKit

theorem InsAt.of_own {w : World} {base : Nat} {a : Option Addr} {n c : Nat} {L : List Inst} (h : OwnI w base (.slice a n c) L) : InsAt w a L := by
  rcases Nat.eq_zero_or_pos L.length with h0 | h0
  · exact .inl (List.length_eq_zero_iff.1 h0)
  · obtain ⟨-, g, rfl, -, -⟩ := h.elem 0 _ (List.getElem?_eq_getElem h0)
    refine .inr ⟨g, 0, rfl, (h.lt g rfl).2, fun i hi => ?_⟩
    obtain ⟨-, g', hg, -, -, h3, -⟩ := h.elem i _ (List.getElem?_eq_getElem hi)
    obtain rfl : g = g' := by injection hg with h; injection h
    rw [Nat.zero_add]
    exact h3
end Go.Proofs.YthnpbopnpdlmnaaDoor

/- The reference's repeated: what stands for a repetition that does not stay. -/
namespace Go.Proofs.YthnpbopnpdlmnaaDoor
open Go.RowKit
attribute [local go_sem] gives givesUpon


end Go.Proofs.YthnpbopnpdlmnaaDoor

/- The reference's grown: the number of nodes of the expanded tree, at most 4097. -/
namespace Go.Proofs.YthnpbopnpdlmnaaDoor
open Go.RowKit
attribute [local go_sem] gives givesUpon

end Go.Proofs.YthnpbopnpdlmnaaDoor

/- Two trees one after the other, and as alternatives: the plain law. No program. -/
namespace Go.Proofs.YthnpbopnpdlmnaaDoor
open Go.RowKit


end Go.Proofs.YthnpbopnpdlmnaaDoor

/- The reference's expanded: the same tree as the program's expand. -/
namespace Go.Proofs.YthnpbopnpdlmnaaDoor
open Go.RowKit
attribute [local go_sem] gives givesUpon


end Go.Proofs.YthnpbopnpdlmnaaDoor

/- The reference's Expand: as the program's. -/
namespace Go.Proofs.YthnpbopnpdlmnaaDoor
open Go.RowKit
attribute [local go_sem] gives givesUpon


end Go.Proofs.YthnpbopnpdlmnaaDoor
