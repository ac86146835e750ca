/- The reference of the parses: trees one after the other. -/
import Derived.Test.YthnpbopnpdlmnaaX32
namespace Go.Proofs.Ythnpbopnpdlmnaa
open Go.RowKit
attribute [local go_sem] gives givesUpon

theorem addP_le (l : List Parse) (p : Parse) : l.length ≤ (addP l p).length := by unfold addP; split <;> simp
theorem nub_grows (b : List Parse) : ∀ a : List Parse, (nub a).length ≤ (nub (a ++ b)).length := by
  induction b with
  | nil => intro a; rw [List.append_nil]; exact Nat.le_refl _
  | cons p b ih =>
    intro a
    have h := ih (a ++ [p])
    rw [List.append_assoc] at h
    refine Nat.le_trans ?_ h
    rw [nub_snoc]
    exact addP_le _ _
section
variable (s : List UInt8) (lines : Bool)
def stepP (x : Re) (l : List Parse) : Option (List Parse) := (l.mapM fun q => parses s lines x q.1 q.2).bind fun ms => if most < (nub ms.flatten).length then none else some (nub ms.flatten)
theorem catP_cons (x : Re) (xs : List Re) (l : List Parse) : catP s lines (x :: xs) l = (stepP s lines x l).bind (catP s lines xs) := by
  rw [catP]
  unfold stepP
  cases (l.mapM fun q => parses s lines x q.1 q.2) with
  | none => rfl
  | some ms =>
    simp only [Option.bind_some]
    split <;> rfl
theorem catP_app : ∀ (a b : List Re) (l : List Parse), catP s lines (a ++ b) l = (catP s lines a l).bind (catP s lines b)
  | [], b, l => by rw [List.nil_append, catP]; rfl
  | x :: a, b, l => by
    rw [List.cons_append, catP_cons, catP_cons]
    cases stepP s lines x l with
    | none => rfl
    | some m => simp only [Option.bind_some]; exact catP_app a b m
theorem catP_step {xs : List Re} {k : Nat} {l0 l m : List Parse} (hk : k < xs.length) (h : catP s lines (xs.take k) l0 = some l) (hm : stepP s lines xs[k] l = some m) : catP s lines (xs.take (k + 1)) l0 = some m := by
  rw [List.take_add_one, List.getElem?_eq_getElem hk]
  show catP s lines (_ ++ [xs[k]]) l0 = _
  rw [catP_app, h]
  simp only [Option.bind_some]
  rw [catP_cons, hm]
  simp only [Option.bind_some]
  rw [catP]
theorem catP_none {xs : List Re} {k : Nat} {l0 l : List Parse} (hk : k < xs.length) (h : catP s lines (xs.take k) l0 = some l) (hm : stepP s lines xs[k] l = none) : catP s lines xs l0 = none := by
  have e : xs = xs.take k ++ (xs[k] :: xs.drop (k + 1)) := by rw [← List.drop_eq_getElem_cons hk, List.take_append_drop]
  rw [e, catP_app, h]
  simp only [Option.bind_some]
  rw [catP_cons, hm]
  rfl
theorem mapM_split {f : Parse → Option (List Parse)} {l : List Parse} {k : Nat} {q : Parse} (h : l[k]? = some q) : l.mapM f = ((l.take k).mapM f).bind fun ms => (f q).bind fun m => ((l.drop (k + 1)).mapM f).bind fun ms2 => some (ms ++ m :: ms2) := by
  have hk : k < l.length := (List.getElem?_eq_some_iff.1 h).1
  have e : l = l.take k ++ (q :: l.drop (k + 1)) := by
    have := List.drop_eq_getElem_cons hk
    rw [List.getElem?_eq_getElem hk] at h
    rw [Option.some.inj h] at this
    rw [← this, List.take_append_drop]
  conv => lhs; rw [e]
  rw [List.mapM_append, List.mapM_cons]
  cases (l.take k).mapM f with
  | none => rfl
  | some ms =>
    cases f q with
    | none => rfl
    | some m =>
      cases (l.drop (k + 1)).mapM f with
      | none => rfl
      | some ms2 => rfl
theorem mapM_step {f : Parse → Option (List Parse)} {l : List Parse} {k : Nat} {q : Parse} {ms : List (List Parse)} {m : List Parse} (h : l[k]? = some q) (h1 : (l.take k).mapM f = some ms) (h2 : f q = some m) : (l.take (k + 1)).mapM f = some (ms ++ [m]) := by
  rw [List.take_add_one, h, List.mapM_append, h1]
  simp [h2]
theorem stepP_none {x : Re} {l : List Parse} {k : Nat} {q : Parse} {ms : List (List Parse)} (h : l[k]? = some q) (h1 : (l.take k).mapM (fun q => parses s lines x q.1 q.2) = some ms) (h2 : parses s lines x q.1 q.2 = none) : stepP s lines x l = none := by
  unfold stepP
  rw [mapM_split h, h1]
  simp [h2]
theorem stepP_many {x : Re} {l : List Parse} {k : Nat} {q : Parse} {ms : List (List Parse)} {m : List Parse} (h : l[k]? = some q) (h1 : (l.take k).mapM (fun q => parses s lines x q.1 q.2) = some ms) (h2 : parses s lines x q.1 q.2 = some m) (h3 : most < (nub (ms.flatten ++ m)).length) : stepP s lines x l = none := by
  unfold stepP
  rw [mapM_split h, h1]
  simp only [Option.bind_some, h2]
  cases (l.drop (k + 1)).mapM (fun q => parses s lines x q.1 q.2) with
  | none => rfl
  | some ms2 =>
    simp only [Option.bind_some]
    rw [if_pos]
    refine Nat.lt_of_lt_of_le h3 ?_
    have := nub_grows ms2.flatten (ms.flatten ++ m)
    rw [List.append_assoc] at this
    rw [List.flatten_append, List.flatten_cons]
    exact this
theorem stepP_all {x : Re} {l : List Parse} {ms : List (List Parse)} (h1 : l.mapM (fun q => parses s lines x q.1 q.2) = some ms) (h3 : (nub ms.flatten).length ≤ most) : stepP s lines x l = some (nub ms.flatten) := by
  unfold stepP
  rw [h1]
  simp only [Option.bind_some]
  rw [if_neg (by omega)]
end
def CatL (w : World) (s : ByteArray) (lines : Bool) (N i : Nat) (L : List Parse) (a : Option Addr) (m c : Nat) (wr : World) : Prop :=
  (L = nub L ∧ L.length ≤ 4096 ∧ ∀ q, q ∈ L → POk N s.size i q) ∧ m = L.length ∧ PsQ (fun _ => True) wr (.slice a m c) L ∧ OneT w s lines wr
def CatM (w : World) (s : ByteArray) (lines : Bool) (N i : Nat) (ms : List (List Parse)) (more : List Parse) (a : Option Addr) (m c : Nat) (wr : World) : Prop :=
  ((nub ms.flatten).length ≤ 4096 ∧ ∀ q, q ∈ ms.flatten → POk N s.size i q) ∧ m = (nub (ms.flatten ++ more)).length ∧ OwnP wr w.heap.size (.slice a m c) (nub (ms.flatten ++ more)) ∧ OneT w s lines wr
set_option maxRecDepth 100000 in
set_option maxHeartbeats 16000000 in
theorem rcat9_any (wb : World) (N : Nat) (hN : N ≤ 9) (s : ByteArray) (hs : s.size ≤ 1000000) (lines : Bool) (xs : List Re) (HXS : ∀ x, x ∈ xs → RPar wb N s lines x) (w : World) (ad : Option Addr) (cap : Nat) (sa : Option Addr) (sc : Nat) (sp : Spans) (i : Nat)
    (hall : Re.AllIn wb xs ad 0) (hok : Re.oks N xs) (hsz : Re.sizes xs ≤ 20) (hbw : Below wb.heap.size wb w) (hsp : SpQ w (.slice sa sp.length sc) sp) (hspo : SpOk N s.size sp) (hi : i ≤ s.size) :
    Calls Try.prog 54 #[.agg #[.string s, .bool lines], .slice ad xs.length cap, .int .i64 i, .slice sa sp.length sc] w (RetP w ((catP s.data.toList lines xs [(i, sp)]).bind (fin s.size))) := by
  have hT : OneT w s lines ((w.alloc (.cells #[.string s, .bool lines] 75)).alloc (.cells #[.int .i64 i, .slice sa sp.length sc] 40)) := ⟨(Row.new rfl).alloc _, ((Below.refl _ _).alloc (Nat.le_refl _) _).alloc (by simp) _⟩
  have HT := hid hT
  have hsl : s.data.toList.length = s.size := by rw [Array.length_toList]; rfl
  have hxl := sizes_len9 xs
  obtain ⟨n, hn⟩ : ∃ n, n = xs.length := ⟨_, rfl⟩
  have hn20 : n ≤ 20 := by omega
  have HKID := hid (fun (x : World) (k : Nat) (hk : k < xs.length) (hx : Below w.heap.size w x) => hall.kid (hbw.trans (hx.mono hbw.size)) k hk)
  have HLEN := hid (fun (k : Nat) (hk : k < xs.length) (q : Parse) (hq : POk N s.size i q) l (h : parses s.data.toList lines xs[k] q.1 q.2 = some l) => parses_len (Re.oks_get9 hok k hk) (by rw [hsl]; exact hq.2.1) (by rw [hsl]; exact hq.2.2) h)
  have hpok := fun (k : Nat) (hk : k < xs.length) (q : Parse) (hq : POk N s.size i q) l (h : parses s.data.toList lines xs[k] q.1 q.2 = some l) => parses_ok s.data.toList lines N xs[k] q.1 q.2 l (Re.oks_get9 hok k hk) (by rw [hsl]; exact hq.2.1) (by rw [hsl]; exact hq.2.2) h
  rw [hsl] at hpok
  have HPOK : Hid (∀ (k : Nat) (hk : k < xs.length) (q : Parse), POk N s.size i q → ∀ l, parses s.data.toList lines xs[k] q.1 q.2 = some l → ∀ q', q' ∈ l → POk N s.size i q') := fun k hk q hq l h q' hq' => by
    have h1 := hpok k hk q hq l h q' hq'
    exact ⟨Nat.le_trans hq.1 h1.1, h1.2⟩
  have HCH := hid (fun (x : World) (k : Nat) (hk : k < xs.length) (cs : List Value) (hin : Re.In wb xs[k] cs) (hx : Below w.heap.size w x) (q1 : Nat) (q2 : Spans) (ua : Option Addr) (uc : Nat) (hq : POk N s.size i (q1, q2)) (hu : SpQ x (.slice ua q2.length uc) q2) => HXS xs[k] (List.getElem_mem hk) x cs ua uc q2 q1 hin (Re.oks_get9 hok k hk) (Nat.le_trans (size_kid9 xs k hk) hsz) (hbw.trans (hx.mono hbw.size)) hu hq.2.2 hq.2.1)
  have HNN := hid hn
  have hPI : PsQ (fun _ => True) ((w.alloc (.cells #[.string s, .bool lines] 75)).alloc (.cells #[.int .i64 i, .slice sa sp.length sc] 40)) (.slice (some ⟨w.heap.size + 1, 0, none⟩) 1 1) [(i, sp)] := (PsQ.lit (Row.new (by simp)) (hsp.below hT.2)).mono fun _ _ _ => trivial
  have HPI := hid hPI
  have HP0 : Hid (POk N s.size i (i, sp)) := ⟨Nat.le_refl _, hi, hspo⟩
  rw [← hn]
  clear hT hall hok hsz hsp hspo hsl hxl hpok HXS hn hPI
  go_enter Try.func54, Try.ntmps54
  go_wp2_with fail
  go_loopw [10, 11] (fun v10 v11 wr => ∃ (k : Nat) (L : List Parse) (a : Option Addr) (m c : Nat), v10 = .slice a m c ∧ v11 = .int .i64 k ∧ k ≤ n ∧ Hid (catP s.data.toList lines (xs.take k) [(i, sp)] = some L ∧ CatL w s lines N i L a m c wr)) (fun _ v11 _ => n - (intOf v11).toNat)
  case atStart => exact ⟨0, [(i, sp)], _, 1, 1, rfl, rfl, Nat.zero_le _, by simp [catP], ⟨rfl, by simp, fun q hq => by have := List.mem_singleton.1 hq; subst this; exact HP0.out⟩, rfl, HPI.out, HT.out⟩
  case round =>
    obtain ⟨k, L, a, m, c, rfl, rfl, hk, HX⟩ := hrel
    obtain ⟨hL, ⟨hL0, hL1, hL2⟩, hm, hps, hT⟩ := HX.out
    have HG := hid (⟨hL, ⟨hL0, hL1, hL2⟩, hm, hps, hT⟩ : _ ∧ (_ ∧ _ ∧ _) ∧ _ ∧ _ ∧ _)
    have q0 := hT.1.two9
    have hm4 : m ≤ 4096 := by omega
    by_cases hlt : k < n
    · have hltI : (k : Int) < (n : Int) := by omega
      have hkx : k < xs.length := by have := HNN.out; omega
      clear hL hL0 hL1 hL2 hm hps hT
      go_wp2_with fail
      go_loopw [12, 13] (fun v12 v13 wr => ∃ (k2 : Nat) (ms : List (List Parse)) (a2 : Option Addr) (m2 c2 : Nat), v12 = .slice a2 m2 c2 ∧ v13 = .int .i64 k2 ∧ k2 ≤ m ∧ Hid ((L.take k2).mapM (fun q => parses s.data.toList lines xs[k] q.1 q.2) = some ms ∧ CatM w s lines N i ms [] a2 m2 c2 wr ∧ PsQ (fun b => (Value.slice a2 m2 c2).ownBlock ≠ some b) wr (.slice a m c) L)) (fun _ v13 _ => m - (intOf v13).toNat)
      case atStart => exact ⟨0, [], none, 0, 0, rfl, rfl, Nat.zero_le _, by simp, ⟨⟨by simp [nub], fun _ h => by cases h⟩, rfl, OwnP.nil _ _, HG.out.2.2.2.2⟩, HG.out.2.2.2.1.mono fun b _ _ => by simp [Value.ownBlock]⟩
      case round =>
        obtain ⟨k2, ms, a2, m2, c2, rfl, rfl, hk2, HX2⟩ := hrel
        obtain ⟨hms, ⟨⟨hM1, hM2⟩, hm2, ho2, hT2⟩, hpl⟩ := HX2.out
        have q0 := hT2.1.two9
        by_cases hlt2 : k2 < m
        · have hltK : (k2 : Int) < (m : Int) := by omega
          obtain ⟨b, cc, u1, u2, ua, uc, hq, ev, hb, hbp, -, p0, p1, hsq⟩ := hpl.get (k := k2) (by have := HG.out.2.2.1; omega)
          injection ev with e1 e2 e3
          subst e1; subst e3
          clear e2
          obtain ⟨bb, o, p', ad', n', cap', e3, HXC, HXI, hbb⟩ := HKID.out wr k hkx hT2.2
          subst e3
          have HPQ : Hid (POk N s.size i (u1, u2)) := HG.out.2.1.2.2 _ (List.mem_of_getElem? hq)
          have HQ := hid hq
          have HG2 := hid (⟨hms, ⟨⟨hM1, hM2⟩, hm2, ho2, hT2⟩, hpl⟩ : _ ∧ ((_ ∧ _) ∧ _ ∧ _ ∧ _) ∧ _)
          have HX1 := hid (fun (x : World) (hx : Grow wr.drew x) => HXC.out.below (grow_below hx))
          have HC0 := hid (⟨p0, p1, hb⟩ : _ ∧ _ ∧ _)
          have HC := hid (fun (x : World) (hx : Grow wr.drew x) => (⟨((HG2.out.2.1.2.2.2.later (grow_below hx)).1).two9, ((grow_below hx).cell (p := ⟨b, k2 * 2, none⟩) HC0.out.2.2).trans HC0.out.1, ((grow_below hx).cell (p := ⟨b, k2 * 2 + 1, none⟩) HC0.out.2.2).trans HC0.out.2.1⟩ : _ ∧ _ ∧ _))
          have HSQ := hid hsq
          have HCK := hid (fun (x : World) (hx : Below wr.heap.size wr x) => HCH.out x k hkx _ HXI.out (HG2.out.2.1.2.2.2.2.trans (hx.mono HG2.out.2.1.2.2.2.2.size)) u1 u2 ua uc HPQ.out (HSQ.out.below hx))
          have HSTEP := hid (fun l (h : parses s.data.toList lines xs[k] u1 u2 = some l) => mapM_step (f := fun q => parses s.data.toList lines xs[k] q.1 q.2) HQ.out HG2.out.1 h)
          have HNONE := hid (fun (h : parses s.data.toList lines xs[k] u1 u2 = none) => catP_none s.data.toList lines hkx HG.out.1 (stepP_none s.data.toList lines HQ.out HG2.out.1 h))
          have HMANY := hid (fun l (h : parses s.data.toList lines xs[k] u1 u2 = some l) (h3 : most < (nub (ms.flatten ++ l)).length) => catP_none s.data.toList lines hkx HG.out.1 (stepP_many s.data.toList lines HQ.out HG2.out.1 h h3))
          have HPO := hid (HPOK.out k hkx (u1, u2) HPQ.out)
          have HLE := hid (HLEN.out k hkx (u1, u2) HPQ.out)
          obtain ⟨r, hr⟩ : ∃ r, r = parses s.data.toList lines xs[k] u1 u2 := ⟨_, rfl⟩
          have hr2 : parses s.data.toList lines xs[k] (u1, u2).1 (u1, u2).2 = r := hr.symm
          rw [← hr] at HCK HSTEP HNONE HMANY
          rw [hr2] at HPO HLE
          clear hr hr2 hms hM1 hM2 hm2 ho2 hT2 hpl hsq hq hbp p0 p1
          go_wp2_with fail
          refine wp_region_two 15 21 rfl (Grow) (by kernel_rfl) (by kernel_rfl) (Grow.refl) (fun _ _ _ => Grow.trans) ?_
          simp only [fill, dstOf, Act.put, List.take_succ_cons, List.take_zero, List.getElem?_toArray, List.getElem?_cons_zero, List.getElem?_cons_succ, Option.bind_some, List.setIfInBounds_toArray, List.set_cons_zero, List.set_cons_succ]
          refine Plan.det 1 rfl (Grow.refl) ?_
          apply Exists.intro
          refine ⟨fun vs x hR hF K hK => ?_, ?_⟩
          · have hc := HC.out x hR; clear hF
            go_simp
            exact hK _ _ (Grow.refl _) rfl
          refine Plan.det 2 rfl (Grow.refl) ?_
          apply Exists.intro
          refine ⟨fun vs x hR hF K hK => ?_, ?_⟩
          · clear hF
            go_simp
            exact hK _ _ (Grow.refl _) rfl
          refine Plan.det 3 rfl (Grow.refl) ?_
          apply Exists.intro
          refine ⟨fun vs x hR hF K hK => ?_, ?_⟩
          · clear hF
            go_simp
            exact hK _ _ (Grow.refl _) rfl
          refine Plan.det 4 rfl (Grow.refl) ?_
          apply Exists.intro
          refine ⟨fun vs x hR hF K hK => ?_, ?_⟩
          · have f1 := hF 1 _ _ rfl rfl; have f2 := hF 0 _ _ rfl rfl; clear hF
            go_simp
            exact hK _ _ (Grow.refl _) rfl
          refine Plan.det 5 rfl (Grow.refl) ?_
          apply Exists.intro
          refine ⟨fun vs x hR hF K hK => ?_, ?_⟩
          · have f3 := hF 0 _ _ rfl rfl; have hc := HC.out x hR; clear hF
            rw [if_pos (show Region.wanted _ _ = true from rfl)]
            refine gives_load_agg 28 _ rfl bb (o + k * 9) f3 _ _ (HX1.out _ hR) Try.underlying28 rfl (size_re9 _ _ _ _ _ _ _ _ _) ?_
            exact hK _ _ (Grow.refl _) rfl
          refine Plan.det 6 rfl (Grow.refl) ?_
          apply Exists.intro
          refine ⟨fun vs x hR hF K hK => ?_, ?_⟩
          · clear hF
            go_simp
            exact hK _ _ (Grow.refl _) rfl
          refine Plan.det 7 rfl (Grow.refl) ?_
          apply Exists.intro
          refine ⟨fun vs x hR hF K hK => ?_, ?_⟩
          · clear hF
            go_simp
            exact hK _ _ (Grow.refl _) rfl
          refine Plan.det 8 rfl (Grow.refl) ?_
          apply Exists.intro
          refine ⟨fun vs x hR hF K hK => ?_, ?_⟩
          · have f5 := hF 1 _ _ rfl rfl; have f6 := hF 0 _ _ rfl rfl; clear hF
            go_simp
            exact hK _ _ (Grow.refl _) rfl
          refine Plan.det 9 rfl (Grow.refl) ?_
          apply Exists.intro
          refine ⟨fun vs x hR hF K hK => ?_, ?_⟩
          · have f7 := hF 0 _ _ rfl rfl; clear hF
            go_simp
            exact hK _ _ (Grow.refl _) rfl
          refine Plan.det 10 rfl (Grow.refl) ?_
          apply Exists.intro
          refine ⟨fun vs x hR hF K hK => ?_, ?_⟩
          · have f8 := hF 0 _ _ rfl rfl; have hc := HC.out x hR; clear hF
            go_simp
            exact hK _ _ (Grow.refl _) rfl
          refine Plan.det 11 rfl (Grow.refl) ?_
          apply Exists.intro
          refine ⟨fun vs x hR hF K hK => ?_, ?_⟩
          · clear hF
            go_simp
            exact hK _ _ (Grow.refl _) rfl
          refine Plan.det 12 rfl (Grow.refl) ?_
          apply Exists.intro
          refine ⟨fun vs x hR hF K hK => ?_, ?_⟩
          · clear hF
            go_simp
            exact hK _ _ (Grow.refl _) rfl
          refine Plan.det 13 rfl (Grow.refl) ?_
          apply Exists.intro
          refine ⟨fun vs x hR hF K hK => ?_, ?_⟩
          · have f10 := hF 1 _ _ rfl rfl; have f11 := hF 0 _ _ rfl rfl; clear hF
            go_simp
            exact hK _ _ (Grow.refl _) rfl
          refine Plan.det 14 rfl (Grow.refl) ?_
          apply Exists.intro
          refine ⟨fun vs x hR hF K hK => ?_, ?_⟩
          · have f12 := hF 0 _ _ rfl rfl; clear hF
            go_simp
            exact hK _ _ (Grow.refl _) rfl
          refine Plan.det 15 rfl (Grow.refl) ?_
          apply Exists.intro
          refine ⟨fun vs x hR hF K hK => ?_, ?_⟩
          · have f13 := hF 0 _ _ rfl rfl; have hc := HC.out x hR; clear hF
            go_simp
            exact hK _ _ (Grow.refl _) rfl
          refine PlanEnd (by simp) (fun vs x hR hF => ?_)
          have f0 := hF 14 _ _ rfl; have f1 := hF 13 _ _ rfl; have f2 := hF 12 _ _ rfl; have f3 := hF 11 _ _ rfl; have f4 := hF 10 _ _ rfl; have f5 := hF 9 _ _ rfl; have f6 := hF 8 _ _ rfl; have f7 := hF 7 _ _ rfl; have f8 := hF 6 _ _ rfl; have f9 := hF 5 _ _ rfl; have f10 := hF 4 _ _ rfl; have f11 := hF 3 _ _ rfl; have f12 := hF 2 _ _ rfl; have f13 := hF 1 _ _ rfl; have f14 := hF 0 _ _ rfl
          clear hF
          simp only [f0, f1, f2, f3, f4, f5, f6, f7, f8, f9, f10, f11, f12, f13, f14]
          clear f0 f1 f2 f3 f4 f5 f6 f7 f8 f9 f10 f11 f12 f13 f14
          intro oo hoo KQ hK
          obtain rfl := Option.some.inj hoo
          clear hoo
          have HBX := hid (grow_below hR)
          clear HX1 hR
          go_simp
          refine (HCK.out _ HBX.out).mono ?_
          rintro e w' ⟨a9, l9, c9, rfl, hb9, h9, h9n⟩
          have HB9 := hid (HBX.out.trans (hb9.mono HBX.out.size))
          have HR9 := hid (And.intro h9 h9n)
          have hz9' := HBX.out.size
          clear hb9 h9 h9n
          refine ⟨_, rfl, hK _ _ ?_⟩
          clear hK
          unfold AfterC
          simp only [fill, dstOf, Act.put, List.getElem?_toArray, List.getElem?_cons_zero, List.getElem?_cons_succ, Option.bind_some, List.setIfInBounds_toArray, List.set_cons_zero, List.set_cons_succ, List.drop_succ_cons, List.drop_zero]
          refine Plan.det 17 rfl (fun _ => rfl) ?_
          apply Exists.intro
          refine ⟨fun vs x hR hF K hK => ?_, ?_⟩
          · have f15 := hF 0 _ _ rfl rfl; clear hF
            go_simp
            exact hK _ _ rfl rfl
          refine Plan.det 18 rfl (fun _ => rfl) ?_
          apply Exists.intro
          refine ⟨fun vs x hR hF K hK => ?_, ?_⟩
          · have f16 := hF 0 _ _ rfl rfl; clear hF
            go_simp
            exact hK _ _ rfl rfl
          refine Plan.det 19 rfl (fun _ => rfl) ?_
          apply Exists.intro
          refine ⟨fun vs x hR hF K hK => ?_, ?_⟩
          · have f16 := hF 1 _ _ rfl rfl; clear hF
            go_simp
            exact hK _ _ rfl rfl
          refine Plan.det 20 rfl (fun _ => rfl) ?_
          apply Exists.intro
          refine ⟨fun vs x hR hF K hK => ?_, ?_⟩
          · have f15 := hF 3 _ _ rfl rfl; have f16 := hF 2 _ _ rfl rfl; have f17 := hF 1 _ _ rfl rfl; clear hF
            go_simp
            exact hK _ _ rfl rfl
          refine Plan.det 21 rfl (fun _ => rfl) ?_
          apply Exists.intro
          refine ⟨fun vs x hR hF K hK => ?_, ?_⟩
          · have f15 := hF 4 _ _ rfl rfl; have f16 := hF 3 _ _ rfl rfl; have f17 := hF 2 _ _ rfl rfl; have f18 := hF 1 _ _ rfl rfl; have f19 := hF 0 _ _ rfl rfl; clear hF
            go_simp
            exact hK _ _ rfl rfl
          refine Plan.nil (fun vs x hR2 hF => ?_)
          have f15 := hF 5 _ _ rfl; have f16 := hF 4 _ _ rfl; have f17 := hF 3 _ _ rfl; have f18 := hF 2 _ _ rfl; have f19 := hF 1 _ _ rfl; have f20 := hF 0 _ _ rfl
          clear hF
          simp only [f15, f16, f17, f18, f19, f20]
          clear f15 f16 f17 f18 f19 f20
          subst hR2
          simp only [List.drop_succ_cons, List.drop_nil]
          clear HC q0 HCK
          cases r with
          | none =>
            obtain ⟨rfl, rfl, rfl⟩ := HR9.out.2 rfl
            simp only [Option.isSome_none]
            go_wp2_with fail
            go_ret2
            exact ⟨none, 0, 0, by rw [HNONE.out (by simp)]; rfl, HG2.out.2.1.2.2.2.2.trans (HB9.out.mono HG2.out.2.1.2.2.2.2.size), fun l hl => (by rw [HNONE.out (by simp)] at hl; cases hl), fun _ => ⟨rfl, rfl, rfl⟩⟩
          | some l =>
            obtain ⟨rfl, hps⟩ := HR9.out.1 l rfl
            have hl4 := HLE.out l rfl
            have HPS := hid (hps.mono (q := fun b => (Value.slice a2 m2 c2).ownBlock ≠ some b) fun b _ hb e => by have := (HG2.out.2.1.2.2.1.lt b e).2; omega)
            obtain ⟨t, htt⟩ : ∃ t, t = l.length := ⟨_, rfl⟩
            have HTT := hid htt
            rw [← htt] at HPS hl4 ⊢
            clear hps htt HR9 HLE
            have HG3 := hid (⟨HG2.out.2.1.2.1, HG2.out.2.1.2.2.1.below HB9.out, HG2.out.2.1.2.2.2.later HB9.out, HG2.out.2.2.below HB9.out⟩ : _ ∧ _ ∧ _ ∧ _)
            simp only [Option.isSome_some]
            go_wp2_with fail
            go_loopw [12, 16] (fun v12 v16 wr => ∃ (j : Nat) (a3 : Option Addr) (m3 c3 : Nat), v12 = .slice a3 m3 c3 ∧ v16 = .int .i64 j ∧ j ≤ t ∧ Hid (m3 = (nub (ms.flatten ++ l.take j)).length ∧ OwnP wr w.heap.size (.slice a3 m3 c3) (nub (ms.flatten ++ l.take j)) ∧ OneT w s lines wr ∧ PsQ (fun b => (Value.slice a3 m3 c3).ownBlock ≠ some b) wr (.slice a9 t c9) l ∧ PsQ (fun b => (Value.slice a3 m3 c3).ownBlock ≠ some b) wr (.slice (some ⟨b, 0, none⟩) m c) L)) (fun _ v16 _ => t - (intOf v16).toNat)
            case atStart =>
              exact ⟨0, a2, m2, c2, rfl, rfl, Nat.zero_le _, by rw [List.take_zero]; exact HG3.out.1, by rw [List.take_zero]; exact HG3.out.2.1, HG3.out.2.2.1, HPS.out, HG3.out.2.2.2⟩
            case round =>
              obtain ⟨j, a3, m3, c3, rfl, rfl, hj, HX3⟩ := hrel
              obtain ⟨h0, h1, h2, h3, h3L⟩ := HX3.out
              have q0 := h2.1.two9
              have hm3 : m3 ≤ 10000 := by
                have h4 : (nub (ms.flatten ++ l.take j)).length ≤ (nub ms.flatten).length + (l.take j).length := by
                  rw [nub_append]
                  have : ∀ (b a : List Parse), (b.foldl addP a).length ≤ a.length + b.length := by
                    intro b
                    induction b with
                    | nil => intro a; exact Nat.le_refl _
                    | cons p b ih =>
                      intro a
                      have h7 := ih (addP a p)
                      have h8 : (addP a p).length ≤ a.length + 1 := by unfold addP; split <;> simp
                      rw [List.foldl_cons, List.length_cons]
                      omega
                  exact this _ _
                have h5 := HG2.out.2.1.1.1
                rw [List.length_take] at h4
                omega
              by_cases hlt3 : j < t
              · have hltJ : (j : Int) < (t : Int) := by omega
                obtain ⟨b3, cc3, y1, y2, ya, yc, hq, ev, hb, hbp, -, p0, p1, hsq⟩ := h3.get (k := j) (by have := HTT.out; omega)
                injection ev with e1 e2 e3
                subst e1; subst e3
                clear e2
                have hmem : (y1, y2) ∈ l := List.mem_of_getElem? hq
                have hpk := HPO.out l rfl (y1, y2) hmem
                have hu1 : y1 ≤ s.size := hpk.2.1
                have hul : y2.length ≤ 9 := by have := hpk.2.2.1; dsimp only at this; omega
                have HG4 := hid (⟨h0, h1, h2, h3, h3L⟩ : _ ∧ _ ∧ _ ∧ _ ∧ _)
                have HSQ2 := hid hsq
                have HALL : Hid (∀ q, q ∈ (y1, y2) :: nub (ms.flatten ++ l.take j) → q.2.length ≤ 9 ∧ q.1 ≤ 1000000) := by
                  intro q hq
                  have h4 : POk N s.size i q := by
                    rcases List.mem_cons.1 hq with rfl | hq
                    · exact hpk
                    · rcases List.mem_append.1 (nub_mem.1 hq) with h5 | h5
                      · exact HG2.out.2.1.1.2 q h5
                      · exact HPO.out l rfl q (List.mem_of_mem_take h5)
                  have h5 := h4.2.1
                  have h6 := h4.2.2.1
                  exact ⟨by omega, by omega⟩
                have HST : Hid (addP (nub (ms.flatten ++ l.take j)) (y1, y2) = nub (ms.flatten ++ l.take (j + 1))) := by
                  show _ = _
                  rw [List.take_add_one, hq, ← List.append_assoc, ← nub_snoc]
                  rfl
                have HC0 := hid (⟨p0, p1, hb⟩ : _ ∧ _ ∧ _)
                have HC := hid (fun (x : World) (hx : Grow wr.drew x) => (⟨((grow_below hx).cell (p := ⟨b3, j * 2, none⟩) HC0.out.2.2).trans HC0.out.1, ((grow_below hx).cell (p := ⟨b3, j * 2 + 1, none⟩) HC0.out.2.2).trans HC0.out.2.1⟩ : _ ∧ _))
                have HBL : Hid (b < wr.heap.size ∨ L = []) := by
                  rcases h3L with ⟨h8, -⟩ | ⟨-, b8, c8, m8, L8, h8, -, -, -, h9⟩
                  · exact .inr h8
                  · injection h8 with h8
                    injection h8 with h8
                    injection h8 with h8
                    subst h8
                    exact .inl h9.lt
                clear h0 h1 h2 h3 h3L hsq hmem hpk hq hbp p0 p1
                go_wp2_with fail
                refine wp_region_two 11 13 rfl (Grow) (by kernel_rfl) (by kernel_rfl) (Grow.refl) (fun _ _ _ => Grow.trans) ?_
                simp only [fill, dstOf, Act.put, List.take_succ_cons, List.take_zero, List.getElem?_toArray, List.getElem?_cons_zero, List.getElem?_cons_succ, Option.bind_some, List.setIfInBounds_toArray, List.set_cons_zero, List.set_cons_succ]
                refine Plan.det 1 rfl (Grow.refl) ?_
                apply Exists.intro
                refine ⟨fun vs x hR hF K hK => ?_, ?_⟩
                · clear hF
                  go_simp
                  exact hK _ _ (Grow.refl _) rfl
                refine Plan.det 2 rfl (Grow.refl) ?_
                apply Exists.intro
                refine ⟨fun vs x hR hF K hK => ?_, ?_⟩
                · clear hF
                  go_simp
                  exact hK _ _ (Grow.refl _) rfl
                refine Plan.det 3 rfl (Grow.refl) ?_
                apply Exists.intro
                refine ⟨fun vs x hR hF K hK => ?_, ?_⟩
                · clear hF
                  go_simp
                  exact hK _ _ (Grow.refl _) rfl
                refine Plan.det 4 rfl (Grow.refl) ?_
                apply Exists.intro
                refine ⟨fun vs x hR hF K hK => ?_, ?_⟩
                · have f1 := hF 1 _ _ rfl rfl; have f2 := hF 0 _ _ rfl rfl; clear hF
                  go_simp
                  exact hK _ _ (Grow.refl _) rfl
                refine Plan.det 5 rfl (Grow.refl) ?_
                apply Exists.intro
                refine ⟨fun vs x hR hF K hK => ?_, ?_⟩
                · have f3 := hF 0 _ _ rfl rfl; clear hF
                  go_simp
                  exact hK _ _ (Grow.refl _) rfl
                refine Plan.det 6 rfl (Grow.refl) ?_
                apply Exists.intro
                refine ⟨fun vs x hR hF K hK => ?_, ?_⟩
                · have f4 := hF 0 _ _ rfl rfl; have hc := HC.out x hR; clear hF
                  go_simp
                  exact hK _ _ (Grow.refl _) rfl
                refine Plan.det 7 rfl (Grow.refl) ?_
                apply Exists.intro
                refine ⟨fun vs x hR hF K hK => ?_, ?_⟩
                · clear hF
                  go_simp
                  exact hK _ _ (Grow.refl _) rfl
                refine Plan.det 8 rfl (Grow.refl) ?_
                apply Exists.intro
                refine ⟨fun vs x hR hF K hK => ?_, ?_⟩
                · clear hF
                  go_simp
                  exact hK _ _ (Grow.refl _) rfl
                refine Plan.det 9 rfl (Grow.refl) ?_
                apply Exists.intro
                refine ⟨fun vs x hR hF K hK => ?_, ?_⟩
                · have f6 := hF 1 _ _ rfl rfl; have f7 := hF 0 _ _ rfl rfl; clear hF
                  go_simp
                  exact hK _ _ (Grow.refl _) rfl
                refine Plan.det 10 rfl (Grow.refl) ?_
                apply Exists.intro
                refine ⟨fun vs x hR hF K hK => ?_, ?_⟩
                · have f8 := hF 0 _ _ rfl rfl; clear hF
                  go_simp
                  exact hK _ _ (Grow.refl _) rfl
                refine Plan.det 11 rfl (Grow.refl) ?_
                apply Exists.intro
                refine ⟨fun vs x hR hF K hK => ?_, ?_⟩
                · have f9 := hF 0 _ _ rfl rfl; have hc := HC.out x hR; clear hF
                  go_simp
                  exact hK _ _ (Grow.refl _) rfl
                refine PlanEnd (by simp) (fun vs x hR hF => ?_)
                have f0 := hF 10 _ _ rfl; have f1 := hF 9 _ _ rfl; have f2 := hF 8 _ _ rfl; have f3 := hF 7 _ _ rfl; have f4 := hF 6 _ _ rfl; have f5 := hF 5 _ _ rfl; have f6 := hF 4 _ _ rfl; have f7 := hF 3 _ _ rfl; have f8 := hF 2 _ _ rfl; have f9 := hF 1 _ _ rfl; have f10 := hF 0 _ _ rfl
                clear hF
                simp only [f0, f1, f2, f3, f4, f5, f6, f7, f8, f9, f10]
                clear f0 f1 f2 f3 f4 f5 f6 f7 f8 f9 f10
                intro oo hoo KQ hK
                obtain rfl := Option.some.inj hoo
                clear hoo
                have HBX := hid (grow_below hR)
                clear hR
                go_simp
                refine (radd_any x w.heap.size (.slice a3 m3 c3) (.slice ya y2.length yc) (nub (ms.flatten ++ l.take j)) y1 y2 (HG4.out.2.1.below HBX.out) (HSQ2.out.below HBX.out) (by rw [← HG4.out.1]; omega) (Nat.le_trans HG4.out.2.2.1.2.size HBX.out.size) HALL.out).mono ?_
                rw [HST.out]
                rintro e w' ⟨a4, c4, rfl, ho3, hg3, hn3⟩
                obtain ⟨m4, hm4e⟩ : ∃ m4, m4 = (nub (ms.flatten ++ l.take (j + 1))).length := ⟨_, rfl⟩
                have HZ2 : Hid (m4 = (nub (ms.flatten ++ l.take (j + 1))).length ∧ OwnP w' w.heap.size (.slice a4 m4 c4) (nub (ms.flatten ++ l.take (j + 1))) ∧ OneT w s lines w' ∧ PsQ (fun b => (Value.slice a4 m4 c4).ownBlock ≠ some b) w' (.slice (some ⟨b3, 0, none⟩) t c9) l ∧ PsQ (fun b => (Value.slice a4 m4 c4).ownBlock ≠ some b) w' (.slice (some ⟨b, 0, none⟩) m c) L) := by
                  rw [hm4e]
                  exact ⟨rfl, ho3, (HG4.out.2.2.1.later HBX.out).grown (HG4.out.2.1.below HBX.out) hg3, (HG4.out.2.2.2.1.below HBX.out).grown (HG4.out.2.1.below HBX.out) hg3 fun b1 hb1 hp1 => ⟨hp1, fun e => (hn3 b1 e).elim hp1 (fun h5 => by omega)⟩, (HG4.out.2.2.2.2.below HBX.out).grown (HG4.out.2.1.below HBX.out) hg3 fun b1 hb1 hp1 => ⟨hp1, fun e => (hn3 b1 e).elim hp1 (fun h5 => by omega)⟩⟩
                rw [← hm4e]
                clear ho3 hg3 hn3 hm4e
                refine ⟨_, rfl, hK _ _ ?_⟩
                clear hK
                unfold AfterC
                simp only [fill, dstOf, Act.put, List.getElem?_toArray, List.getElem?_cons_zero, List.getElem?_cons_succ, Option.bind_some, List.setIfInBounds_toArray, List.set_cons_zero, List.set_cons_succ, List.drop_succ_cons, List.drop_zero]
                refine Plan.det 13 rfl (fun _ => rfl) ?_
                apply Exists.intro
                refine ⟨fun vs x hR hF K hK => ?_, ?_⟩
                · have f11 := hF 0 _ _ rfl rfl; clear hF
                  go_simp
                  exact hK _ _ rfl rfl
                refine Plan.nil (fun vs x hR2 hF => ?_)
                have f11 := hF 1 _ _ rfl; have f12 := hF 0 _ _ rfl
                clear hF
                simp only [f11, f12]
                clear f11 f12
                subst hR2
                simp only [List.drop_succ_cons, List.drop_nil]
                clear HC q0
                go_wp2_with fail
                refine ⟨⟨j + 1, a4, m4, c4, rfl, by go_num, by omega, HZ2.out⟩, ?_⟩
                simp [intOf] <;> omega
              · obtain rfl : j = t := by omega
                have hltJ : ¬ (j : Int) < (j : Int) := by omega
                have htk : l.take j = l := by rw [HTT.out]; exact List.take_length
                rw [htk] at h0 h1
                have HG5 := hid (⟨h0, h1, h2, h3L⟩ : _ ∧ _ ∧ _ ∧ _)
                clear h0 h1 h2 h3 h3L htk
                by_cases hbig : 4096 < m3
                · have hbI : (4096 : Int) < (m3 : Int) := by omega
                  have HNO := hid (HMANY.out l rfl (by show 4096 < _; rw [← HG5.out.1]; exact hbig))
                  clear hbig
                  go_wp2_with fail
                  go_ret2
                  exact ⟨none, 0, 0, by rw [HNO.out]; rfl, HG5.out.2.2.1.2, fun l hl => (by rw [HNO.out] at hl; cases hl), fun _ => ⟨rfl, rfl, rfl⟩⟩
                · have hbI : ¬ (4096 : Int) < (m3 : Int) := by omega
                  have HZ : Hid ((L.take (k2 + 1)).mapM (fun q => parses s.data.toList lines xs[k] q.1 q.2) = some (ms ++ [l]) ∧ CatM w s lines N i (ms ++ [l]) [] a3 m3 c3 wr ∧ PsQ (fun b => (Value.slice a3 m3 c3).ownBlock ≠ some b) wr (.slice (some ⟨b, 0, none⟩) m c) L) := by
                    have hfl : (ms ++ [l]).flatten = ms.flatten ++ l := by simp
                    refine ⟨HSTEP.out l rfl, ⟨⟨?_, ?_⟩, ?_, ?_, HG5.out.2.2.1⟩, HG5.out.2.2.2⟩
                    · rw [hfl, ← HG5.out.1]; omega
                    · intro q hq
                      rw [hfl] at hq
                      rcases List.mem_append.1 hq with h5 | h5
                      · exact HG2.out.2.1.1.2 q h5
                      · exact HPO.out l rfl q h5
                    · rw [hfl, List.append_nil]; exact HG5.out.1
                    · rw [hfl, List.append_nil]; exact HG5.out.2.1
                  clear hbig
                  go_wp2_with fail
                  refine ⟨⟨k2 + 1, ms ++ [l], a3, m3, c3, rfl, by go_num, by omega, HZ.out⟩, ?_⟩
                  simp [intOf] <;> omega
        · obtain rfl : k2 = m := by omega
          have hltK : ¬ (k2 : Int) < (k2 : Int) := by omega
          have htk : L.take k2 = L := by rw [HG.out.2.2.1]; exact List.take_length
          rw [htk] at hms
          rw [List.append_nil] at hm2 ho2
          have HZ : Hid (catP s.data.toList lines (xs.take (k + 1)) [(i, sp)] = some (nub ms.flatten) ∧ CatL w s lines N i (nub ms.flatten) a2 m2 c2 wr) :=
            ⟨catP_step s.data.toList lines hkx HG.out.1 (stepP_all s.data.toList lines hms hM1), ⟨(nub_nub _).symm, hM1, fun q hq => hM2 q (nub_mem.1 hq)⟩, hm2, ho2.psq.mono fun _ _ _ => trivial, hT2⟩
          clear hms hM1 hM2 hm2 ho2 hT2 hpl htk
          go_wp2_with fail
          refine ⟨⟨k + 1, nub ms.flatten, a2, m2, c2, rfl, by go_num, by omega, HZ.out⟩, ?_⟩
          simp [intOf] <;> omega
    · obtain rfl : k = n := by omega
      have hltI : ¬ (k : Int) < (k : Int) := by omega
      have htk : xs.take k = xs := by rw [HNN.out]; exact List.take_length
      rw [htk] at hL
      have HF : Hid (fin s.size L = (catP s.data.toList lines xs [(i, sp)]).bind (fin s.size)) := by show _ = _; rw [hL]; rfl
      have HPS := hid hps
      clear hL hL0 hm hps hT htk
      go_wp2_with fail
      have hmm := HG.out.2.2.1
      subst hmm
      refine (rdone_any _ _ _ L L s lines HG.out.2.1.1 HPS.out (by omega) hs).mono ?_
      rintro e w2 hr
      obtain ⟨a2, n2, c2, b2, rfl, HRR⟩ := hr.on HG.out.2.2.2.2.2 HF.out
      clear hr
      go_wp2_with fail
      go_ret2
      exact HRR.out
end Go.Proofs.Ythnpbopnpdlmnaa
