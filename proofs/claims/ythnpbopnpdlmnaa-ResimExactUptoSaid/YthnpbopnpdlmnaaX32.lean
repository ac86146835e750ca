/- The reference of the parses: alternatives. -/
import Derived.Test.YthnpbopnpdlmnaaX31
namespace Go.Proofs.Ythnpbopnpdlmnaa
open Go.RowKit
attribute [local go_sem] gives givesUpon

section
variable (s : List UInt8) (lines : Bool)
theorem altP_app : ∀ (a b : List Re) (i : Nat) (sp : Spans), altP s lines (a ++ b) i sp = (altP s lines a i sp).bind fun l => (altP s lines b i sp).bind fun m => some (l ++ m)
  | [], b, i, sp => by
    rw [List.nil_append, altP]
    cases altP s lines b i sp <;> rfl
  | x :: a, b, i, sp => by
    rw [List.cons_append, altP, altP_app a b, altP]
    cases parses s lines x i sp with
    | none => rfl
    | some l =>
      cases altP s lines a i sp with
      | none => rfl
      | some m =>
        cases altP s lines b i sp with
        | none => rfl
        | some m2 => simp
theorem altP_one (x : Re) (i : Nat) (sp : Spans) : altP s lines [x] i sp = parses s lines x i sp := by
  rw [altP]
  cases parses s lines x i sp with
  | none => rfl
  | some l => simp [altP]
theorem altP_step {xs : List Re} {k i : Nat} {sp : Spans} {L m : List Parse} (hk : k < xs.length) (h : altP s lines (xs.take k) i sp = some L) (hm : parses s lines xs[k] i sp = some m) : altP s lines (xs.take (k + 1)) i sp = some (L ++ m) := by
  rw [List.take_add_one, List.getElem?_eq_getElem hk]
  show altP s lines (_ ++ [xs[k]]) i sp = _
  rw [altP_app, h, altP_one, hm]
  rfl
theorem altP_none {xs : List Re} {k i : Nat} {sp : Spans} (hk : k < xs.length) (hm : parses s lines xs[k] i sp = none) : altP s lines xs i sp = none := by
  have e : xs = xs.take k ++ (xs[k] :: xs.drop (k + 1)) := by rw [← List.drop_eq_getElem_cons hk, List.take_append_drop]
  rw [e, altP_app, altP, hm]
  cases altP s lines (xs.take k) i sp <;> rfl
end
def OneT (w : World) (s : ByteArray) (lines : Bool) (x : World) : Prop := Row x w.heap.size [.string s, .bool lines] 75 ∧ Below w.heap.size w x
theorem OneT.later {w : World} {s : ByteArray} {lines : Bool} {x y : World} (h : OneT w s lines x) (hb : Below x.heap.size x y) : OneT w s lines y := ⟨h.1.below hb h.1.lt, h.2.trans (hb.mono h.2.size)⟩
theorem OneT.grown {w : World} {s : ByteArray} {lines : Bool} {x y : World} {v : Value} {l : List Parse} (h : OneT w s lines x) (ho : OwnP x w.heap.size v l) (hg : x.grownBy y v.ownBlock) : OneT w s lines y := by
  obtain ⟨_, L, h1, h2, h3⟩ := ho
  exact ⟨h.1.grownOwn h3 (by decide) hg, h.2.grown hg h.2.size fun g hgg => (World.ownsRow.lt h3 g hgg).1⟩
def AltL (w : World) (s : ByteArray) (lines : Bool) (N i : Nat) (L : List Parse) (k : Nat) (a : Option Addr) (m c : Nat) (wr : World) : Prop :=
  (L.length ≤ k * 4096 ∧ (∀ q, q ∈ L → POk N s.size i q)) ∧ m = (nub L).length ∧ OwnP wr w.heap.size (.slice a m c) (nub L) ∧ OneT w s lines wr
theorem sizes_len9 : ∀ xs : List Re, xs.length ≤ Re.sizes xs
  | [] => Nat.le_refl _
  | x :: xs => by
    have := sizes_len9 xs
    have h1 : Re.sizes (x :: xs) = x.size + Re.sizes xs := rfl
    have h2 : 1 ≤ x.size := by cases x; rw [Re.size_mk]; omega
    rw [List.length_cons]; omega
theorem size_kid9 : ∀ (xs : List Re) (k : Nat) (h : k < xs.length), xs[k].size ≤ Re.sizes xs
  | x :: xs, 0, _ => by have h1 : Re.sizes (x :: xs) = x.size + Re.sizes xs := rfl; show x.size ≤ _; omega
  | x :: xs, k + 1, h => by
    have h1 : Re.sizes (x :: xs) = x.size + Re.sizes xs := rfl
    have hk : k < xs.length := by simpa using h
    have := size_kid9 xs k hk; show (xs[k]'hk).size ≤ _; omega

set_option maxRecDepth 100000 in
set_option maxHeartbeats 16000000 in
theorem ralt_any (wb : World) (N : Nat) (hN : N ≤ 9) (s : ByteArray) (hs : s.size ≤ 1000000) (lines : Bool) (xs : List Re) (HXS : ∀ x, x ∈ xs → RPar wb N s lines x) (w : World) (ad : Option Addr) (cap : Nat) (sa : Option Addr) (sc : Nat) (sp : Spans) (i : Nat)
    (hall : Re.AllIn wb xs ad 0) (hok : Re.oks N xs) (hsz : Re.sizes xs ≤ 20) (hbw : Below wb.heap.size wb w) (hsp : SpQ w (.slice sa sp.length sc) sp) (hspo : SpOk N s.size sp) (hi : i ≤ s.size) :
    Calls Try.prog 55 #[.agg #[.string s, .bool lines], .slice ad xs.length cap, .int .i64 i, .slice sa sp.length sc] w (RetP w ((altP s.data.toList lines xs i sp).bind (fin s.size))) := by
  have hT : OneT w s lines (w.alloc (.cells #[.string s, .bool lines] 75)) := ⟨Row.new rfl, (Below.refl _ _).alloc (Nat.le_refl _) _⟩
  have HT := hid hT
  have q0 := hT.1.two9
  have hsl : s.data.toList.length = s.size := by rw [Array.length_toList]; rfl
  have hxl := sizes_len9 xs
  obtain ⟨n, hn⟩ : ∃ n, n = xs.length := ⟨_, rfl⟩
  have hn20 : n ≤ 20 := by omega
  have HKID := hid (fun (x : World) (k : Nat) (hk : k < xs.length) (hx : Below w.heap.size w x) => hall.kid (hbw.trans (hx.mono hbw.size)) k hk)
  have HLEN := hid (fun (k : Nat) (hk : k < xs.length) l (h : parses s.data.toList lines xs[k] i sp = some l) => parses_len (Re.oks_get9 hok k hk) (by rw [hsl]; exact hi) (by rw [hsl]; exact hspo) h)
  have hpok := fun (k : Nat) (hk : k < xs.length) l (h : parses s.data.toList lines xs[k] i sp = some l) => parses_ok s.data.toList lines N xs[k] i sp l (Re.oks_get9 hok k hk) (by rw [hsl]; exact hi) (by rw [hsl]; exact hspo) h
  rw [hsl] at hpok
  have HPOK := hid hpok
  have HCH := hid (fun (x : World) (k : Nat) (hk : k < xs.length) (cs : List Value) (hin : Re.In wb xs[k] cs) (hx : Below w.heap.size w x) => HXS xs[k] (List.getElem_mem hk) x cs sa sc sp i hin (Re.oks_get9 hok k hk) (Nat.le_trans (size_kid9 xs k hk) hsz) (hbw.trans (hx.mono hbw.size)) (hsp.of (fun _ _ hr => hr.below hx hr.lt)) hspo hi)
  have HNN := hid hn
  rw [← hn]
  clear hT hall hok hsz hsp hspo hsl hxl hpok HXS hn
  go_enter Try.func55, Try.ntmps55
  go_wp2_with fail
  go_loopw [10, 11] (fun v10 v11 wr => ∃ (k : Nat) (L : List Parse) (a : Option Addr) (m c : Nat), v10 = .slice a m c ∧ v11 = .int .i64 k ∧ k ≤ n ∧ Hid (altP s.data.toList lines (xs.take k) i sp = some L ∧ AltL w s lines N i L k a m c wr)) (fun _ v11 _ => n - (intOf v11).toNat)
  case atStart => exact ⟨0, [], none, 0, 0, rfl, rfl, Nat.zero_le _, by simp [altP], ⟨by simp, fun _ h => by cases h⟩, rfl, OwnP.nil _ _, HT.out⟩
  case round =>
    obtain ⟨k, L, a, m, c, rfl, rfl, hk, HX⟩ := hrel
    obtain ⟨hL, ⟨hL1, hL2⟩, hm, ho, hT⟩ := HX.out
    have HG := hid (⟨hL, ⟨hL1, hL2⟩, hm, ho, hT⟩ : _ ∧ (_ ∧ _) ∧ _ ∧ _ ∧ _)
    have q0 := hT.1.two9
    by_cases hlt : k < n
    · have hltI : (k : Int) < (n : Int) := by omega
      have hkx : k < xs.length := by have := HNN.out; omega
      obtain ⟨bb, o, p', ad', n', cap', e3, HXC, HXI, hbb⟩ := HKID.out wr k hkx hT.2
      subst e3
      have HX1 := hid (fun (x : World) (hx : Grow wr.drew x) => HXC.out.below (grow_below hx))
      have HC := hid (fun (x : World) (hx : Grow wr.drew x) => ((HG.out.2.2.2.2.later (grow_below hx)).1).two9)
      have HCK := hid (fun (x : World) (hx : Below wr.heap.size wr x) => HCH.out x k hkx _ HXI.out (HG.out.2.2.2.2.2.trans (hx.mono HG.out.2.2.2.2.2.size)))
      have HSTEP := hid (fun l (h : parses s.data.toList lines xs[k] i sp = some l) => altP_step s.data.toList lines hkx HG.out.1 h)
      have HNONE := hid (fun (h : parses s.data.toList lines xs[k] i sp = none) => altP_none s.data.toList lines hkx h)
      have HPO := hid (HPOK.out k hkx)
      have HLE := hid (HLEN.out k hkx)
      obtain ⟨r, hr⟩ : ∃ r, r = parses s.data.toList lines xs[k] i sp := ⟨_, rfl⟩
      rw [← hr] at HCK HSTEP HNONE HPO HLE
      clear hr hL hL1 hL2 hm ho hT
      go_wp2_with fail
      refine wp_region_two 7 13 rfl (Grow) (by kernel_rfl) (by kernel_rfl) (Grow.refl) (fun _ _ _ => Grow.trans) ?_
      simp only [fill, dstOf, Act.put, List.take_succ_cons, List.take_zero, List.getElem?_toArray, List.getElem?_cons_zero, List.getElem?_cons_succ, Option.bind_some, List.setIfInBounds_toArray, List.set_cons_zero, List.set_cons_succ]
      refine Plan.det 1 rfl (Grow.refl) ?_
      apply Exists.intro
      refine ⟨fun vs x hR hF K hK => ?_, ?_⟩
      · have hc := HC.out x hR; clear hF
        go_simp
        exact hK _ _ (Grow.refl _) rfl
      refine Plan.det 2 rfl (Grow.refl) ?_
      apply Exists.intro
      refine ⟨fun vs x hR hF K hK => ?_, ?_⟩
      · clear hF
        go_simp
        exact hK _ _ (Grow.refl _) rfl
      refine Plan.det 3 rfl (Grow.refl) ?_
      apply Exists.intro
      refine ⟨fun vs x hR hF K hK => ?_, ?_⟩
      · clear hF
        go_simp
        exact hK _ _ (Grow.refl _) rfl
      refine Plan.det 4 rfl (Grow.refl) ?_
      apply Exists.intro
      refine ⟨fun vs x hR hF K hK => ?_, ?_⟩
      · have f1 := hF 1 _ _ rfl rfl; have f2 := hF 0 _ _ rfl rfl; clear hF
        go_simp
        exact hK _ _ (Grow.refl _) rfl
      refine Plan.det 5 rfl (Grow.refl) ?_
      apply Exists.intro
      refine ⟨fun vs x hR hF K hK => ?_, ?_⟩
      · have f3 := hF 0 _ _ rfl rfl; have hc := HC.out x hR; clear hF
        rw [if_pos (show Region.wanted _ _ = true from rfl)]
        refine gives_load_agg 28 _ rfl bb (o + k * 9) f3 _ _ (HX1.out _ hR) Try.underlying28 rfl (size_re9 _ _ _ _ _ _ _ _ _) ?_
        exact hK _ _ (Grow.refl _) rfl
      refine Plan.det 6 rfl (Grow.refl) ?_
      apply Exists.intro
      refine ⟨fun vs x hR hF K hK => ?_, ?_⟩
      · clear hF
        go_simp
        exact hK _ _ (Grow.refl _) rfl
      refine Plan.det 7 rfl (Grow.refl) ?_
      apply Exists.intro
      refine ⟨fun vs x hR hF K hK => ?_, ?_⟩
      · clear hF
        go_simp
        exact hK _ _ (Grow.refl _) rfl
      refine PlanEnd (by simp) (fun vs x hR hF => ?_)
      have f0 := hF 6 _ _ rfl; have f1 := hF 5 _ _ rfl; have f2 := hF 4 _ _ rfl; have f3 := hF 3 _ _ rfl; have f4 := hF 2 _ _ rfl; have f5 := hF 1 _ _ rfl; have f6 := hF 0 _ _ rfl
      clear hF
      simp only [f0, f1, f2, f3, f4, f5, f6]
      clear f0 f1 f2 f3 f4 f5 f6
      intro oo hoo KQ hK
      obtain rfl := Option.some.inj hoo
      clear hoo
      have HBX := hid (grow_below hR)
      clear HX1 hR
      go_simp
      refine (HCK.out _ HBX.out).mono ?_
      rintro e w' ⟨a9, l9, c9, rfl, hb9, h9, h9n⟩
      have HB9 := hid (HBX.out.trans (hb9.mono HBX.out.size))
      have HR9 := hid (And.intro h9 h9n)
      have hz9' := HBX.out.size
      clear hb9 h9 h9n
      refine ⟨_, rfl, hK _ _ ?_⟩
      clear hK
      unfold AfterC
      simp only [fill, dstOf, Act.put, List.getElem?_toArray, List.getElem?_cons_zero, List.getElem?_cons_succ, Option.bind_some, List.setIfInBounds_toArray, List.set_cons_zero, List.set_cons_succ, List.drop_succ_cons, List.drop_zero]
      refine Plan.det 9 rfl (fun _ => rfl) ?_
      apply Exists.intro
      refine ⟨fun vs x hR hF K hK => ?_, ?_⟩
      · have f7 := hF 0 _ _ rfl rfl; clear hF
        go_simp
        exact hK _ _ rfl rfl
      refine Plan.det 10 rfl (fun _ => rfl) ?_
      apply Exists.intro
      refine ⟨fun vs x hR hF K hK => ?_, ?_⟩
      · have f8 := hF 0 _ _ rfl rfl; clear hF
        go_simp
        exact hK _ _ rfl rfl
      refine Plan.det 11 rfl (fun _ => rfl) ?_
      apply Exists.intro
      refine ⟨fun vs x hR hF K hK => ?_, ?_⟩
      · have f8 := hF 1 _ _ rfl rfl; clear hF
        go_simp
        exact hK _ _ rfl rfl
      refine Plan.det 12 rfl (fun _ => rfl) ?_
      apply Exists.intro
      refine ⟨fun vs x hR hF K hK => ?_, ?_⟩
      · have f7 := hF 3 _ _ rfl rfl; have f8 := hF 2 _ _ rfl rfl; have f9 := hF 1 _ _ rfl rfl; clear hF
        go_simp
        exact hK _ _ rfl rfl
      refine Plan.det 13 rfl (fun _ => rfl) ?_
      apply Exists.intro
      refine ⟨fun vs x hR hF K hK => ?_, ?_⟩
      · have f7 := hF 4 _ _ rfl rfl; have f8 := hF 3 _ _ rfl rfl; have f9 := hF 2 _ _ rfl rfl; have f10 := hF 1 _ _ rfl rfl; have f11 := hF 0 _ _ rfl rfl; clear hF
        go_simp
        exact hK _ _ rfl rfl
      refine Plan.nil (fun vs x hR2 hF => ?_)
      have f7 := hF 5 _ _ rfl; have f8 := hF 4 _ _ rfl; have f9 := hF 3 _ _ rfl; have f10 := hF 2 _ _ rfl; have f11 := hF 1 _ _ rfl; have f12 := hF 0 _ _ rfl
      clear hF
      simp only [f7, f8, f9, f10, f11, f12]
      clear f7 f8 f9 f10 f11 f12
      subst hR2
      simp only [List.drop_succ_cons, List.drop_nil]
      clear HC q0 HCK
      cases r with
      | none =>
        obtain ⟨rfl, rfl, rfl⟩ := HR9.out.2 rfl
        simp only [Option.isSome_none]
        go_wp2_with fail
        go_ret2
        exact ⟨none, 0, 0, by rw [HNONE.out (by simp)]; rfl, HG.out.2.2.2.2.2.trans (HB9.out.mono HG.out.2.2.2.2.2.size), fun l hl => (by rw [HNONE.out (by simp)] at hl; cases hl), fun _ => ⟨rfl, rfl, rfl⟩⟩
      | some l =>
        obtain ⟨rfl, hps⟩ := HR9.out.1 l rfl
        have hl4 := HLE.out l rfl
        have HPS := hid (hps.mono (q := fun b => (Value.slice a m c).ownBlock ≠ some b) fun b _ hb e => by have := (HG.out.2.2.2.1.lt b e).2; omega)
        obtain ⟨t, htt⟩ : ∃ t, t = l.length := ⟨_, rfl⟩
        have HTT := hid htt
        rw [← htt] at HPS hl4 ⊢
        clear hps htt HR9 HLE
        have HG2 := hid (⟨HG.out.2.1, HG.out.2.2.1, HG.out.2.2.2.1.below HB9.out, HG.out.2.2.2.2.later HB9.out⟩ : _ ∧ _ ∧ _ ∧ _)
        simp only [Option.isSome_some]
        go_wp2_with fail
        go_loopw [10, 14] (fun v10 v14 wr => ∃ (j : Nat) (a : Option Addr) (m c : Nat), v10 = .slice a m c ∧ v14 = .int .i64 j ∧ j ≤ t ∧ Hid (m = (nub (L ++ l.take j)).length ∧ OwnP wr w.heap.size (.slice a m c) (nub (L ++ l.take j)) ∧ OneT w s lines wr ∧ PsQ (fun b => (Value.slice a m c).ownBlock ≠ some b) wr (.slice a9 t c9) l)) (fun _ v14 _ => t - (intOf v14).toNat)
        case atStart =>
          exact ⟨0, a, m, c, rfl, rfl, Nat.zero_le _, by rw [List.take_zero, List.append_nil]; exact HG2.out.2.1, by rw [List.take_zero, List.append_nil]; exact HG2.out.2.2.1, HG2.out.2.2.2, HPS.out⟩
        case round =>
          obtain ⟨j, a, m, c, rfl, rfl, hj, HX⟩ := hrel
          obtain ⟨h0, h1, h2, h3⟩ := HX.out
          have q0 := h2.1.two9
          by_cases hlt2 : j < t
          · have hltJ : (j : Int) < (t : Int) := by omega
            obtain ⟨b, cc, u1, u2, ua, uc, hq, ev, hb, hbp, -, p0, p1, hsq⟩ := h3.get (k := j) (by have := HTT.out; omega)
            injection ev with e1 e2 e3
            subst e1; subst e3
            clear e2
            have hmem : (u1, u2) ∈ l := List.mem_of_getElem? hq
            have hpk := HPO.out l rfl (u1, u2) hmem
            have hu1 : u1 ≤ s.size := hpk.2.1
            have hul : u2.length ≤ 9 := by have := hpk.2.2.1; dsimp only at this; omega
            have HG3 := hid (⟨h0, h1, h2, h3⟩ : _ ∧ _ ∧ _ ∧ _)
            have HSQ := hid hsq
            have hml : m ≤ 100000 := by
              have h4 := nub_le (L ++ l.take j)
              have h5 := HG.out.2.1.1
              rw [List.length_append, List.length_take] at h4
              have : k * 4096 ≤ 20 * 4096 := Nat.mul_le_mul_right _ (by omega)
              omega
            have HALL : Hid (∀ q, q ∈ (u1, u2) :: nub (L ++ l.take j) → q.2.length ≤ 9 ∧ q.1 ≤ 1000000) := by
              intro q hq
              have h4 : POk N s.size i q := by
                rcases List.mem_cons.1 hq with rfl | hq
                · exact hpk
                · rcases List.mem_append.1 (nub_mem.1 hq) with h5 | h5
                  · exact HG.out.2.1.2 q h5
                  · exact HPO.out l rfl q (List.mem_of_mem_take h5)
              have h5 := h4.2.1
              have h6 := h4.2.2.1
              exact ⟨by omega, by omega⟩
            have HST : Hid (addP (nub (L ++ l.take j)) (u1, u2) = nub (L ++ l.take (j + 1))) := by
              show _ = _
              rw [List.take_add_one, hq, ← List.append_assoc, ← nub_snoc]
              rfl
            have HC0 := hid (⟨p0, p1, hb⟩ : _ ∧ _ ∧ _)
            have HC := hid (fun (x : World) (hx : Grow wr.drew x) => (⟨((grow_below hx).cell (p := ⟨b, j * 2, none⟩) HC0.out.2.2).trans HC0.out.1, ((grow_below hx).cell (p := ⟨b, j * 2 + 1, none⟩) HC0.out.2.2).trans HC0.out.2.1⟩ : _ ∧ _))
            clear h0 h1 h2 h3 hsq hmem hpk hq hbp p0 p1
            go_wp2_with fail
            refine wp_region_two 11 13 rfl (Grow) (by kernel_rfl) (by kernel_rfl) (Grow.refl) (fun _ _ _ => Grow.trans) ?_
            simp only [fill, dstOf, Act.put, List.take_succ_cons, List.take_zero, List.getElem?_toArray, List.getElem?_cons_zero, List.getElem?_cons_succ, Option.bind_some, List.setIfInBounds_toArray, List.set_cons_zero, List.set_cons_succ]
            refine Plan.det 1 rfl (Grow.refl) ?_
            apply Exists.intro
            refine ⟨fun vs x hR hF K hK => ?_, ?_⟩
            · clear hF
              go_simp
              exact hK _ _ (Grow.refl _) rfl
            refine Plan.det 2 rfl (Grow.refl) ?_
            apply Exists.intro
            refine ⟨fun vs x hR hF K hK => ?_, ?_⟩
            · clear hF
              go_simp
              exact hK _ _ (Grow.refl _) rfl
            refine Plan.det 3 rfl (Grow.refl) ?_
            apply Exists.intro
            refine ⟨fun vs x hR hF K hK => ?_, ?_⟩
            · clear hF
              go_simp
              exact hK _ _ (Grow.refl _) rfl
            refine Plan.det 4 rfl (Grow.refl) ?_
            apply Exists.intro
            refine ⟨fun vs x hR hF K hK => ?_, ?_⟩
            · have f1 := hF 1 _ _ rfl rfl; have f2 := hF 0 _ _ rfl rfl; clear hF
              go_simp
              exact hK _ _ (Grow.refl _) rfl
            refine Plan.det 5 rfl (Grow.refl) ?_
            apply Exists.intro
            refine ⟨fun vs x hR hF K hK => ?_, ?_⟩
            · have f3 := hF 0 _ _ rfl rfl; clear hF
              go_simp
              exact hK _ _ (Grow.refl _) rfl
            refine Plan.det 6 rfl (Grow.refl) ?_
            apply Exists.intro
            refine ⟨fun vs x hR hF K hK => ?_, ?_⟩
            · have f4 := hF 0 _ _ rfl rfl; have hc := HC.out x hR; clear hF
              go_simp
              exact hK _ _ (Grow.refl _) rfl
            refine Plan.det 7 rfl (Grow.refl) ?_
            apply Exists.intro
            refine ⟨fun vs x hR hF K hK => ?_, ?_⟩
            · clear hF
              go_simp
              exact hK _ _ (Grow.refl _) rfl
            refine Plan.det 8 rfl (Grow.refl) ?_
            apply Exists.intro
            refine ⟨fun vs x hR hF K hK => ?_, ?_⟩
            · clear hF
              go_simp
              exact hK _ _ (Grow.refl _) rfl
            refine Plan.det 9 rfl (Grow.refl) ?_
            apply Exists.intro
            refine ⟨fun vs x hR hF K hK => ?_, ?_⟩
            · have f6 := hF 1 _ _ rfl rfl; have f7 := hF 0 _ _ rfl rfl; clear hF
              go_simp
              exact hK _ _ (Grow.refl _) rfl
            refine Plan.det 10 rfl (Grow.refl) ?_
            apply Exists.intro
            refine ⟨fun vs x hR hF K hK => ?_, ?_⟩
            · have f8 := hF 0 _ _ rfl rfl; clear hF
              go_simp
              exact hK _ _ (Grow.refl _) rfl
            refine Plan.det 11 rfl (Grow.refl) ?_
            apply Exists.intro
            refine ⟨fun vs x hR hF K hK => ?_, ?_⟩
            · have f9 := hF 0 _ _ rfl rfl; have hc := HC.out x hR; clear hF
              go_simp
              exact hK _ _ (Grow.refl _) rfl
            refine PlanEnd (by simp) (fun vs x hR hF => ?_)
            have f0 := hF 10 _ _ rfl; have f1 := hF 9 _ _ rfl; have f2 := hF 8 _ _ rfl; have f3 := hF 7 _ _ rfl; have f4 := hF 6 _ _ rfl; have f5 := hF 5 _ _ rfl; have f6 := hF 4 _ _ rfl; have f7 := hF 3 _ _ rfl; have f8 := hF 2 _ _ rfl; have f9 := hF 1 _ _ rfl; have f10 := hF 0 _ _ rfl
            clear hF
            simp only [f0, f1, f2, f3, f4, f5, f6, f7, f8, f9, f10]
            clear f0 f1 f2 f3 f4 f5 f6 f7 f8 f9 f10
            intro oo hoo KQ hK
            obtain rfl := Option.some.inj hoo
            clear hoo
            have HBX := hid (grow_below hR)
            clear hR
            go_simp
            refine (radd_any x w.heap.size (.slice a m c) (.slice ua u2.length uc) (nub (L ++ l.take j)) u1 u2 (HG3.out.2.1.below HBX.out) (HSQ.out.below HBX.out) (by rw [← HG3.out.1]; exact hml) (Nat.le_trans HG3.out.2.2.1.2.size HBX.out.size) HALL.out).mono ?_
            rw [HST.out]
            rintro e w' ⟨a3, c3, rfl, ho3, hg3, hn3⟩
            have HZ : Hid ((nub (L ++ l.take (j + 1))).length = (nub (L ++ l.take (j + 1))).length ∧ OwnP w' w.heap.size (.slice a3 (nub (L ++ l.take (j + 1))).length c3) (nub (L ++ l.take (j + 1))) ∧ OneT w s lines w' ∧ PsQ (fun b => (Value.slice a3 (nub (L ++ l.take (j + 1))).length c3).ownBlock ≠ some b) w' (.slice (some ⟨b, 0, none⟩) t c9) l) := ⟨rfl, ho3, (HG3.out.2.2.1.later HBX.out).grown (HG3.out.2.1.below HBX.out) hg3, (HG3.out.2.2.2.below HBX.out).grown (HG3.out.2.1.below HBX.out) hg3 fun b1 hb1 hp1 => ⟨hp1, fun e => (hn3 b1 e).elim hp1 (fun h5 => by omega)⟩⟩
            obtain ⟨m3, hm3⟩ : ∃ m3, m3 = (nub (L ++ l.take (j + 1))).length := ⟨_, rfl⟩
            have HZ2 : Hid (m3 = (nub (L ++ l.take (j + 1))).length ∧ OwnP w' w.heap.size (.slice a3 m3 c3) (nub (L ++ l.take (j + 1))) ∧ OneT w s lines w' ∧ PsQ (fun b => (Value.slice a3 m3 c3).ownBlock ≠ some b) w' (.slice (some ⟨b, 0, none⟩) t c9) l) := by rw [hm3]; exact HZ.out
            rw [← hm3]
            clear ho3 hg3 hn3 hm3 HZ
            refine ⟨_, rfl, hK _ _ ?_⟩
            clear hK
            unfold AfterC
            simp only [fill, dstOf, Act.put, List.getElem?_toArray, List.getElem?_cons_zero, List.getElem?_cons_succ, Option.bind_some, List.setIfInBounds_toArray, List.set_cons_zero, List.set_cons_succ, List.drop_succ_cons, List.drop_zero]
            refine Plan.det 13 rfl (fun _ => rfl) ?_
            apply Exists.intro
            refine ⟨fun vs x hR hF K hK => ?_, ?_⟩
            · have f11 := hF 0 _ _ rfl rfl; clear hF
              go_simp
              exact hK _ _ rfl rfl
            refine Plan.nil (fun vs x hR2 hF => ?_)
            have f11 := hF 1 _ _ rfl; have f12 := hF 0 _ _ rfl
            clear hF
            simp only [f11, f12]
            clear f11 f12
            subst hR2
            simp only [List.drop_succ_cons, List.drop_nil]
            clear HC q0
            go_wp2_with fail
            refine ⟨⟨j + 1, a3, m3, c3, rfl, by go_num, by omega, HZ2.out⟩, ?_⟩
            simp [intOf] <;> omega
          · obtain rfl : j = t := by omega
            have hltJ : ¬ (j : Int) < (j : Int) := by omega
            have htk : l.take j = l := by rw [HTT.out]; exact List.take_length
            rw [htk] at h0 h1
            have HZ : Hid (altP s.data.toList lines (xs.take (k + 1)) i sp = some (L ++ l) ∧ AltL w s lines N i (L ++ l) (k + 1) a m c wr) := by
              refine ⟨HSTEP.out l rfl, ⟨?_, ?_⟩, h0, h1, h2⟩
              · rw [List.length_append]
                have := HG.out.2.1.1
                have := HTT.out
                omega
              · intro q hq
                rcases List.mem_append.1 hq with h5 | h5
                · exact HG.out.2.1.2 q h5
                · exact HPO.out l rfl q h5
            clear h0 h1 h2 h3 htk
            go_wp2_with fail
            refine ⟨⟨k + 1, L ++ l, a, m, c, rfl, by go_num, by omega, HZ.out⟩, ?_⟩
            simp [intOf] <;> omega
    · obtain rfl : k = n := by omega
      have hltI : ¬ (k : Int) < (k : Int) := by omega
      have htk : xs.take k = xs := by rw [HNN.out]; exact List.take_length
      rw [htk] at hL
      have HF : Hid (fin s.size L = (altP s.data.toList lines xs i sp).bind (fin s.size)) := by show _ = _; rw [hL]; rfl
      have hps := ho.psq
      have hle : (nub L).length ≤ 100000 := by
        have h4 := nub_le L
        have : k * 4096 ≤ 20 * 4096 := Nat.mul_le_mul_right _ hn20
        omega
      have HPS := hid hps
      clear hL hL1 hL2 hm ho hT hps htk
      go_wp2_with fail
      refine (rdone_any _ _ _ (nub L) L s lines rfl HPS.out hle hs).mono ?_
      rintro e w2 hr
      obtain ⟨a2, n2, c2, b2, rfl, HRR⟩ := hr.on HG.out.2.2.2.2.2 HF.out
      clear hr
      go_wp2_with fail
      go_ret2
      exact HRR.out
end Go.Proofs.Ythnpbopnpdlmnaa
