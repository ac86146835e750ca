/- The reference's Threads. -/
import Derived.Test.YtnjcfggadeakpaaG31
import Derived.Test.YtnjcfggadeakpaaG32
import Derived.Test.YtnjcfggadeakpaaG26
import Derived.Test.YtnjcfggadeakpaaG28
namespace Go.Proofs.Ytnjcfggadeakpaa
open Go.RowKit
attribute [local go_sem] gives givesUpon

/-- The first q instructions that are marked and take part. -/
def Pick (m : Sim) (mk : Nat → Bool) (q : Nat) (K : List Nat) : Prop := K.Pairwise (· < ·) ∧ ∀ k, k ∈ K ↔ k < q ∧ mk k = true ∧ m.leaf k
theorem Pick.begin (m : Sim) (mk : Nat → Bool) : Pick m mk 0 [] := by
  refine ⟨List.Pairwise.nil, fun k => ?_⟩
  constructor
  · intro h; cases h
  · intro h; have := h.1; omega
theorem Pick.skip {m : Sim} {mk : Nat → Bool} {q : Nat} {K : List Nat} (h : Pick m mk q K) (hn : ¬ (mk q = true ∧ m.leaf q)) : Pick m mk (q + 1) K := by
  refine ⟨h.1, fun k => ?_⟩
  rw [h.2 k]
  constructor
  · rintro ⟨h1, h2⟩; exact ⟨by omega, h2⟩
  · rintro ⟨h1, h2⟩
    rcases Nat.lt_or_ge k q with h3 | h3
    · exact ⟨h3, h2⟩
    · obtain rfl : k = q := by omega
      exact absurd h2 hn
theorem Pick.take {m : Sim} {mk : Nat → Bool} {q : Nat} {K : List Nat} (h : Pick m mk q K) (h1 : mk q = true) (h2 : m.leaf q) : Pick m mk (q + 1) (K ++ [q]) := by
  refine ⟨?_, fun k => ?_⟩
  · rw [List.pairwise_append]
    refine ⟨h.1, by simp, fun x hx y hy => ?_⟩
    obtain rfl : y = q := by simpa using hy
    exact ((h.2 x).1 hx).1
  · rw [List.mem_append, h.2 k]
    constructor
    · rintro (⟨h3, h4⟩ | h3)
      · exact ⟨by omega, h4⟩
      · obtain rfl : k = q := by simpa using h3
        exact ⟨by omega, h1, h2⟩
    · rintro ⟨h3, h4⟩
      rcases Nat.lt_or_ge k q with h5 | h5
      · exact .inl ⟨h5, h4⟩
      · obtain rfl : k = q := by omega
        exact .inr (by simp)
theorem asc_le : ∀ (K : List Nat) (n lo : Nat), K.Pairwise (· < ·) → (∀ k, k ∈ K → lo ≤ k ∧ k < n) → K.length + lo ≤ n ∨ K = []
  | [], _, _, _, _ => .inr rfl
  | a :: K, n, lo, h, hm => by
    rw [List.pairwise_cons] at h
    have ha := hm a (by simp)
    rcases asc_le K n (a + 1) h.2 (fun k hk => ⟨h.1 k hk, (hm k (by simp [hk])).2⟩) with h1 | h1
    · left; simp only [List.length_cons]; omega
    · subst h1; left; simp only [List.length_cons, List.length_nil]; omega
theorem Pick.len {m : Sim} {mk : Nat → Bool} {q : Nat} {K : List Nat} (h : Pick m mk q K) : K.length ≤ q := by
  rcases asc_le K q 0 h.1 (fun k hk => ⟨by omega, ((h.2 k).1 hk).1⟩) with h1 | h1
  · omega
  · subst h1; simp
theorem Pick.is {m : Sim} {mk : Nat → Bool} {f d : Nat} {K : List Nat} (h : Pick m mk m.L.length K) (hr : rightAll m.L) (hf : f ≤ d) (hd : d ≤ m.s.length) (hm : ∀ k, mk k = true ↔ m.R f (d - f) k) : IsTh m f d K := by
  refine ⟨h.1, fun k => ?_⟩
  rw [h.2 k, hm k]
  constructor
  · rintro ⟨h1, h2, h3⟩
    exact ⟨hr, by omega, by omega, by omega, h3, by simpa using h2⟩
  · rintro ⟨-, -, -, -, h3, h4⟩
    have h4 : m.R f (d - f) k := by simpa using h4
    exact ⟨Sim.R_lt hr f _ k h4, h4, h3⟩
set_option maxRecDepth 100000 in
set_option maxHeartbeats 16000000 in
theorem ThreadsR_any (w : World) (m : Sim) (a : Option Addr) (c : Nat) (str : ByteArray) (at_ d : Int) (h : Pre w m a str) :
    Calls Try.prog 14 #[.agg #[.slice a m.L.length c, .bool m.lines], .string str, .int .i64 at_, .int .i64 d] w (ThPost m w at_ d) := by
  have hsz := size_eq h.s
  have HPN : Hid (∀ w', Below w.heap.size w w' → (¬ rightAll m.L ∨ at_ < 0 ∨ (str.size : Int) < d ∨ d < at_) → ThPost m w at_ d (.returned (.slice none 0 0)) w') := fun w' h1 h2 => ⟨h1, _, [], rfl, IsTh.nil (by rw [hsz]; exact h2), World.ownsRow_nil _ _ _ _⟩
  have HPY : Hid (∀ w' v ts, Below w.heap.size w w' → IsTh m at_ d ts → w'.ownsRow w.heap.size 3 1 v ts.length (ts.map natV) → ThPost m w at_ d (.returned v) w') := fun w' v ts h1 h2 h3 => ⟨h1, v, ts, rfl, h2, h3⟩
  have HSZ := hid hsz
  clear hsz
  generalize ThPost m w at_ d = PP at *
  have hshort := h.short
  have hfew := h.few
  have HBX : Hid (Row (w.alloc (.cells #[.slice a m.L.length c, .bool m.lines] 24)) w.heap.size [.slice a m.L.length c, .bool m.lines] 24) := Row.at w [.slice a m.L.length c, .bool m.lines] _
  have HB0 : Hid (Below w.heap.size w (w.alloc (.cells #[.slice a m.L.length c, .bool m.lines] 24))) := Grow.alloc w _
  have HPR := hid (h.below HB0.out)
  clear h
  have HVR := hid (ValidR_any (w.alloc (.cells #[.slice a m.L.length c, .bool m.lines] 24)) a c m.L m.lines HPR.out.ins (by omega))
  go_enter Try.func14, Try.ntmps14
  go_upto_region 1 with fail
  generalize w.alloc (.cells #[.slice a m.L.length c, .bool m.lines] 24) = w1 at *
  have q : w1.cell? ⟨w.heap.size, 0, none⟩ = some (.slice a m.L.length c) ∧ w1.cell? ⟨w.heap.size, 1, none⟩ = some (.bool m.lines) := ⟨HBX.out.cell 0, HBX.out.cell 1⟩
  have HBL : Hid (w.heap.size < w1.heap.size) := HBX.out.lt
  have HW1 : Hid (w.heap.size ≤ w1.heap.size) := Nat.le_of_lt HBL.out
  generalize hb0 : w.heap.size = b0 at q HBX HBL
  have HVX := hid (fun (e : Ending) (w2 : World) (he : VPost m.L w1 e w2) => he)
  go_wp2_with fail
  refine HVR.out.mono ?_
  rintro e w2 ⟨bv, rfl, hbv, hb2⟩
  have HB2 := hid (HB0.out.trans (hb2.mono HW1.out))
  have HBX2 := hid (HBX.out.below hb2 HBL.out)
  have q2 : w2.cell? ⟨b0, 0, none⟩ = some (.slice a m.L.length c) ∧ w2.cell? ⟨b0, 1, none⟩ = some (.bool m.lines) := ⟨HBX2.out.cell 0, HBX2.out.cell 1⟩
  have HB12 := hid hb2
  clear hb2 q HVX HVR
  cases bv with
  | false =>
    have HNR : Hid (¬ rightAll m.L) := fun hr => by have := hbv.2 hr; cases this
    go_wp2_with fail
    all_goals (try go_ret)
    all_goals exact HPN.out _ HB2.out (.inl HNR.out)
  | true =>
  have HRI : Hid (rightAll m.L) := hbv.1 rfl
  clear hbv
  rcases Int.lt_or_le at_ 0 with h0 | h0
  · go_wp2_with fail
    all_goals (try go_ret)
    all_goals exact HPN.out _ HB2.out (.inr (.inl h0))
  have d0 : decide (at_ < 0) = false := by simpa using h0
  rcases Int.lt_or_le d at_ with h2 | h2
  · go_wp2_with fail
    all_goals (try go_ret)
    all_goals exact HPN.out _ HB2.out (.inr (.inr (.inr h2)))
  have d2 : decide (d < at_) = false := by simpa using h2
  rcases Int.lt_or_le (str.size : Int) d with h1 | h1
  · go_wp2_with fail
    all_goals (try go_ret)
    all_goals exact HPN.out _ HB2.out (.inr (.inr (.inl h1)))
  have d1 : decide ((str.size : Int) < d) = false := by simpa using h1
  obtain ⟨f, rfl⟩ := Int.eq_ofNat_of_zero_le h0
  obtain ⟨dn, rfl⟩ := Int.eq_ofNat_of_zero_le (show 0 ≤ d by omega)
  have hfs : f ≤ str.size := by omega
  have hfd : f ≤ dn := by omega
  have hds : dn ≤ str.size := by omega
  have HRE := hid (reached_any w2 m a c str f dn ⟨HPR.out.ins.below HB12.out (Nat.le_refl _), HRI.out, HPR.out.s, HPR.out.short⟩ HPR.out.wf hfd hds)
  go_wp2_with fail
  refine HRE.out.mono ?_
  rintro e w3 ⟨G, mk, rfl, hr3, hm3, hg3, hb3⟩
  have HR3 := hid hr3
  have HM3 := hid hm3
  have HB3 := hid (HB2.out.trans (hb3.mono HB2.out.size))
  have HBX3 := hid (HBX2.out.below hb3 HBX2.out.lt)
  have HI3 : Hid (InsAt w3 a m.L) := HPR.out.ins.below (HB12.out.trans (hb3.mono HB12.out.size)) (Nat.le_refl _)
  clear hr3 hm3 hg3 hb3 HRE q2 d0 d1 d2
  have HBBx : Hid (b0 ≤ w3.heap.size) := Nat.le_of_lt HBX3.out.lt
  obtain ⟨BB, hBB⟩ : ∃ B, B = w3.heap.size := ⟨_, rfl⟩
  have HBB := hid hBB
  rw [← hBB] at HBBx
  clear hBB
  have hBl : Hid (BB ≤ w3.heap.size) := by rw [HBB.out]; exact Nat.le_refl _
  go_wp2_with fail
  go_loopw [9, 11] (fun vo vk w6 => ∃ (q : Nat) (ao : Option Addr) (kn co : Nat) (K : List Nat) (XS : List Value), q ≤ m.L.length ∧ vk = .int .i64 q ∧ vo = .slice ao kn co ∧ kn ≤ q ∧ Hid (Pick m mk q K ∧ kn = K.length ∧ XS = K.map natV) ∧ Hid (Below BB w3 w6 ∧ Below b0 w w6 ∧ w6.ownsRow BB 3 1 (.slice ao kn co) kn XS)) (fun _ vk _ => m.L.length - (intOf vk).toNat)
  case atStart =>
    subst hb0
    exact ⟨0, none, 0, 0, [], [], by omega, rfl, rfl, Nat.le_refl _, ⟨Pick.begin _ _, rfl, rfl⟩, Below.refl _ _, HB3.out, World.ownsRow_nil _ _ _ _⟩
  case round =>
    obtain ⟨q, ao, kn, co, K, XS, hq, rfl, rfl, hkn, HK, HO⟩ := hrel
    have HR4 : Hid (Row wr G (boolRow mk m.L.length) 4) := HR3.out.below HO.out.1 (by rw [HBB.out]; exact HR3.out.lt)
    have HBX4 : Hid (Row wr b0 [.slice a m.L.length c, .bool m.lines] 24) := HBX3.out.below HO.out.1 (by rw [HBB.out]; exact HBX3.out.lt)
    rcases Nat.lt_or_ge q m.L.length with hlt | hge
    · obtain ⟨fb, fo, hfa, hfb, hfc⟩ := (HI3.out.below HO.out.1 (by rw [HBB.out]; exact Nat.le_refl _)).at hlt
      subst hfa
      have HIN : Hid (m.inst q = m.L[q]) := Sim.inst_eq hlt
      generalize m.L[q] = ff at *
      obtain ⟨fop, fset, fx, fy⟩ := ff
      have qi := (cells7 (show CellsAt wr fb (fo + q * 7) [.int .i64 fop, .int .u64 fset.a, .int .u64 fset.b, .int .u64 fset.c, .int .u64 fset.d, .int .i64 fx, .int .i64 fy] from hfc)).1
      have q4 : wr.cell? ⟨b0, 0, none⟩ = some (.slice (some ⟨fb, fo, none⟩) m.L.length c) := HBX4.out.cell 0
      have qm : wr.cell? ⟨G, q, none⟩ = some (.bool (mk q)) := (HR4.out.cell q).trans (boolRow_get hlt)
      have hqI : (q : Int) < (m.L.length : Int) := by omega
      have HLF : Hid (m.leaf q ↔ fop = 1 ∨ fop = 6) := by
        show _ ↔ _
        unfold Sim.leaf
        rw [HIN.out]
      clear hfc
      rcases hmk : mk q with _ | _
      · rw [hmk] at qm
        go_wp2_with fail
        all_goals
          refine ⟨⟨q + 1, ao, kn, co, K, XS, hlt, rfl, rfl, by omega, ⟨HK.out.1.skip (by rw [hmk]; simp), HK.out.2⟩, HO.out⟩, ?_⟩
          show m.L.length - ((q : Int) + 1).toNat < m.L.length - (q : Int).toNat
          omega
      rw [hmk] at qm
      by_cases h16 : fop = 1 ∨ fop = 6
      case neg =>
        have d1 : (fop == 1) = false := by simp; omega
        have d6 : (fop == 6) = false := by simp; omega
        go_wp2_with fail
        all_goals
          refine ⟨⟨q + 1, ao, kn, co, K, XS, hlt, rfl, rfl, by omega, ⟨HK.out.1.skip (fun h => h16 (HLF.out.1 h.2)), HK.out.2⟩, HO.out⟩, ?_⟩
          show m.L.length - ((q : Int) + 1).toNat < m.L.length - (q : Int).toNat
          omega
      have HPK := hid (HK.out.1.take hmk (HLF.out.2 h16))
      have hzw : BB ≤ wr.heap.size := by rw [HBB.out]; exact HO.out.1.size
      have HAL : Hid (Below wr.heap.size wr (wr.alloc (.cells #[.int .i64 q] 3))) := Grow.alloc wr _
      have HOA : Hid ((wr.alloc (.cells #[.int .i64 q] 3)).ownsRow BB 3 1 (.slice ao kn co) kn XS) := ownsRow_heap HO.out.2.2 fun g hg => HAL.out.block g (HO.out.2.2.lt g hg).2
      obtain ⟨i0, hi, hz0, hz1, hz2⟩ := info_parts info_intT
      rcases h16 with rfl | rfl
      all_goals
        go_wp2_with (at_builtin; refine wpList_append_row rfl _ _ 35 rfl BB 3 i0 (.int .i64 0) 1 8 Try.underlying35 hi hz0 hz1 hz2 rfl (by decide) _ kn XS rfl HOA.out ⟨wr.heap.size, 0, none⟩ 1 1 [.int .i64 q] rfl rfl ?c1 ?c2 ?c3 ?c4 ?c5 (by decide) ?_)
        case c2 => rfl
        case c3 => unfold maxLen; omega
        case c4 => omega
        case c5 => omega
        intro a2 c2 w5 hown hgrow hnw
        have hlo : ∀ j, (Value.slice ao kn co).ownBlock = some j → BB ≤ j := fun j hj => (HOA.out.lt j hj).1
        have HR5 := hid ((HO.out.1.trans (HAL.out.mono hzw)).grown hgrow (by have h2 := HAL.out.size; omega) hlo)
        have HL5 := hid ((HO.out.2.1.trans (HAL.out.mono (Nat.le_trans HBBx.out hzw))).grown hgrow (by have h2 := HAL.out.size; have h3 := HBBx.out; omega) (fun j hj => Nat.le_trans HBBx.out (hlo j hj)))
        have HO5 := hid hown
        clear hown hgrow hnw hlo HOA HAL hi hz0 hz1 hz2
        go_wp2_with fail
        all_goals
          refine ⟨⟨q + 1, a2, kn + 1, c2, K ++ [q], XS ++ [.int .i64 q], hlt, rfl, rfl, by omega, ⟨HPK.out, by rw [List.length_append, HK.out.2.1]; rfl, by rw [List.map_append, HK.out.2.2]; rfl⟩, HR5.out, HL5.out, HO5.out⟩, ?_⟩
          show m.L.length - ((q : Int) + 1).toNat < m.L.length - (q : Int).toNat
          omega
    · obtain rfl : q = m.L.length := by omega
      go_wp2_with fail
      all_goals (try go_ret)
      have HIS := hid (HK.out.1.is HRI.out hfd (by rw [HSZ.out]; exact hds) HM3.out)
      subst hb0
      refine HPY.out _ _ K HO.out.2.1 HIS.out ?_
      have h := ownsRow_base HO.out.2.2 HBBx.out
      rw [← HK.out.2.2, ← HK.out.2.1]
      exact h
end Go.Proofs.Ytnjcfggadeakpaa

/- The reference's Ends. -/
namespace Go.Proofs.Ytnjcfggadeakpaa
open Go.RowKit
attribute [local go_sem] gives givesUpon

def IsEn (m : Sim) (at_ : Int) (es : List Nat) : Prop := es.Pairwise (· < ·) ∧ ∀ j, j ∈ es ↔ rightAll m.L ∧ 0 ≤ at_ ∧ at_ ≤ j ∧ j ≤ m.s.length ∧ hit m at_.toNat j
theorem IsEn.nil {m : Sim} {at_ : Int} (h : at_ < 0) : IsEn m at_ [] := by
  refine ⟨List.Pairwise.nil, fun j => ?_⟩
  constructor
  · intro h; cases h
  · rintro ⟨-, h2, -⟩; omega
/-- The ends before an offset. -/
def En (m : Sim) (f e : Nat) (es : List Nat) : Prop := es.Pairwise (· < ·) ∧ ∀ j, j ∈ es ↔ f ≤ j ∧ j < e ∧ rightAll m.L ∧ hit m f j
theorem En.begin (m : Sim) (f : Nat) : En m f f [] := by
  refine ⟨List.Pairwise.nil, fun j => ?_⟩
  constructor
  · intro h; cases h
  · rintro ⟨h1, h2, -⟩; omega
theorem En.skip {m : Sim} {f e : Nat} {es : List Nat} (h : En m f e es) (hn : ¬ (rightAll m.L ∧ hit m f e)) : En m f (e + 1) es := by
  refine ⟨h.1, fun j => ?_⟩
  rw [h.2]
  constructor
  · rintro ⟨h1, h2, h3⟩; exact ⟨h1, by omega, h3⟩
  · rintro ⟨h1, h2, h3⟩
    rcases Nat.lt_or_ge j e with h4 | h4
    · exact ⟨h1, h4, h3⟩
    · obtain rfl : j = e := by omega
      exact absurd h3 hn
theorem En.take {m : Sim} {f e : Nat} {es : List Nat} (h : En m f e es) (hf : f ≤ e) (hn : rightAll m.L ∧ hit m f e) : En m f (e + 1) (es ++ [e]) := by
  refine ⟨?_, fun j => ?_⟩
  · rw [List.pairwise_append]
    refine ⟨h.1, by simp, fun x hx y hy => ?_⟩
    obtain rfl : y = e := by simpa using hy
    exact ((h.2 x).1 hx).2.1
  · rw [List.mem_append, h.2]
    constructor
    · rintro (⟨h1, h2, h3⟩ | h1)
      · exact ⟨h1, by omega, h3⟩
      · obtain rfl : j = e := by simpa using h1
        exact ⟨hf, by omega, hn⟩
    · rintro ⟨h1, h2, h3⟩
      rcases Nat.lt_or_ge j e with h4 | h4
      · exact .inl ⟨h1, h4, h3⟩
      · obtain rfl : j = e := by omega
        exact .inr (by simp)
theorem En.is {m : Sim} {f e : Nat} {es : List Nat} (h : En m f e es) (he : e = m.s.length + 1 ∨ (m.s.length < f ∧ e = f)) : IsEn m f es := by
  refine ⟨h.1, fun j => ?_⟩
  rw [h.2]
  constructor
  · rintro ⟨h1, h2, h3, h4⟩
    exact ⟨h3, by omega, by omega, by omega, by simpa using h4⟩
  · rintro ⟨h1, h2, h3, h4, h5⟩
    exact ⟨by omega, by omega, h1, by simpa using h5⟩
theorem En.len {m : Sim} {f e : Nat} {es : List Nat} (h : En m f e es) : es.length ≤ e := by
  rcases asc_le es e 0 h.1 (fun k hk => ⟨by omega, ((h.2 k).1 hk).2.1⟩) with h1 | h1
  · omega
  · subst h1; simp
/-- Does one of the threads match? -/
def any6 (m : Sim) (ts : List Nat) : Bool := ts.any fun k => decide ((m.inst k).op = 6)
theorem any6_snoc (m : Sim) (ts : List Nat) (k : Nat) : any6 m (ts ++ [k]) = (any6 m ts || decide ((m.inst k).op = 6)) := by
  unfold any6
  rw [List.any_append]
  simp
theorem IsTh.any6 {m : Sim} {f d : Nat} {ts : List Nat} (h : IsTh m f d ts) (hf : f ≤ d) (hd : d ≤ m.s.length) : Go.Proofs.Ytnjcfggadeakpaa.any6 m ts = true ↔ rightAll m.L ∧ hit m f d := by
  unfold Go.Proofs.Ytnjcfggadeakpaa.any6 hit
  rw [List.any_eq_true]
  constructor
  · rintro ⟨k, hk, h6⟩
    obtain ⟨h1, -, -, -, h2, h3⟩ := (h.2 k).1 hk
    exact ⟨h1, k, by simpa using h6, by simpa using h3⟩
  · rintro ⟨h1, k, h2, h3⟩
    exact ⟨k, (h.2 k).2 ⟨h1, by omega, by omega, by omega, .inr h2, by simpa using h3⟩, by simpa using h2⟩
theorem IsTh.lt {m : Sim} {at_ d : Int} {ts : List Nat} (h : IsTh m at_ d ts) {k : Nat} (hk : k ∈ ts) : k < m.L.length := by
  obtain ⟨h1, -, -, -, h2, h3⟩ := (h.2 k).1 hk
  exact Sim.R_lt h1 _ _ k h3
theorem IsTh.len {m : Sim} {at_ d : Int} {ts : List Nat} (h : IsTh m at_ d ts) : ts.length ≤ m.L.length := by
  rcases asc_le ts m.L.length 0 h.1 (fun k hk => ⟨by omega, h.lt hk⟩) with h1 | h1
  · omega
  · subst h1; simp
theorem natV_get {ts : List Nat} {q : Nat} (hq : q < ts.length) : (ts.map natV)[q]? = some (.int .i64 (ts[q] : Nat)) := by
  rw [List.getElem?_map, List.getElem?_eq_getElem hq]
  rfl
/-- A cell of a row of numbers. -/
theorem rowN_cell {w : World} {base : Nat} {a : Option Addr} {n c : Nat} {ts : List Nat} (h : w.ownsRow base 3 1 (.slice a n c) n (ts.map natV)) {q : Nat} (hq : q < ts.length) : ∃ g, a = some ⟨g, 0, none⟩ ∧ g < w.heap.size ∧ w.cell? ⟨g, q, none⟩ = some (.int .i64 (ts[q] : Nat)) := by
  have hl : n = ts.length := by have h1 := h.1; simpa using h1.symm
  rcases id h.2 with ⟨-, h2⟩ | ⟨g, cap, cur, hv, -⟩
  · omega
  · injection hv with e1
    subst e1
    have h1 := World.ownsRow.cells h (g := g) rfl q (.int .i64 (ts[q] : Nat)) (natV_get hq)
    rw [Addr.add_lit, Nat.zero_add] at h1
    exact ⟨g, rfl, (h.lt g rfl).2, h1⟩
def EnPost (m : Sim) (w : World) (at_ : Int) (e : Ending) (w' : World) : Prop :=
  Below w.heap.size w w' ∧ ∃ (v : Value) (es : List Nat), e = .returned v ∧ IsEn m at_ es ∧ w'.ownsRow w.heap.size 3 1 v es.length (es.map natV)
set_option maxRecDepth 100000 in
set_option maxHeartbeats 16000000 in
theorem EndsR_any (w : World) (m : Sim) (a : Option Addr) (c : Nat) (str : ByteArray) (at_ : Int) (h : Pre w m a str) :
    Calls Try.prog 39 #[.agg #[.slice a m.L.length c, .bool m.lines], .string str, .int .i64 at_] w (EnPost m w at_) := by
  have hsz := size_eq h.s
  have HPY : Hid (∀ w' v es, Below w.heap.size w w' → IsEn m at_ es → w'.ownsRow w.heap.size 3 1 v es.length (es.map natV) → EnPost m w at_ (.returned v) w') := fun w' v ts h1 h2 h3 => ⟨h1, v, ts, rfl, h2, h3⟩
  have HSZ := hid hsz
  clear hsz
  generalize EnPost m w at_ = PP at *
  have hshort := h.short
  have hfew := h.few
  have HBX : Hid (Row (w.alloc (.cells #[.slice a m.L.length c, .bool m.lines] 24)) w.heap.size [.slice a m.L.length c, .bool m.lines] 24) := Row.at w [.slice a m.L.length c, .bool m.lines] _
  have HB0 : Hid (Below w.heap.size w (w.alloc (.cells #[.slice a m.L.length c, .bool m.lines] 24))) := Grow.alloc w _
  have HPR := hid (h.below HB0.out)
  clear h
  go_enter Try.func39, Try.ntmps39
  go_upto_region 1 with fail
  generalize w.alloc (.cells #[.slice a m.L.length c, .bool m.lines] 24) = w1 at *
  have HBL : Hid (w.heap.size < w1.heap.size) := HBX.out.lt
  have HW1 : Hid (w.heap.size ≤ w1.heap.size) := Nat.le_of_lt HBL.out
  generalize hb0 : w.heap.size = b0 at HBX HBL
  rcases Int.lt_or_le at_ 0 with h0 | h0
  · go_wp2_with fail
    all_goals (try go_ret)
    all_goals exact HPY.out _ _ [] HB0.out (IsEn.nil h0) (World.ownsRow_nil _ _ _ _)
  obtain ⟨f, rfl⟩ := Int.eq_ofNat_of_zero_le h0
  obtain ⟨BB, hBB⟩ : ∃ B, B = w1.heap.size := ⟨_, rfl⟩
  have HBB := hid hBB
  clear hBB
  go_wp2_with fail
  go_loopw [7, 8] (fun vo ve wr => ∃ (e : Nat) (ao : Option Addr) (kn co : Nat) (es : List Nat) (XS : List Value), f ≤ e ∧ (e ≤ str.size + 1 ∨ e = f) ∧ ve = .int .i64 e ∧ vo = .slice ao kn co ∧ kn ≤ e - f ∧ Hid (En m f e es ∧ kn = es.length ∧ XS = es.map natV) ∧ Hid (Below BB w1 wr ∧ wr.ownsRow BB 3 1 (.slice ao kn co) kn XS)) (fun _ ve _ => str.size + 1 - (intOf ve).toNat)
  case atStart => exact ⟨f, none, 0, 0, [], [], Nat.le_refl _, .inr rfl, rfl, rfl, Nat.zero_le _, ⟨En.begin _ _, rfl, rfl⟩, Below.refl _ _, World.ownsRow_nil _ _ _ _⟩
  case round =>
    obtain ⟨e, ao, kn, co, es, XS, hfe, hes, rfl, rfl, hkn, HK, HO⟩ := hrel
    rcases Nat.lt_or_ge str.size e with hge | hle
    · have HIS := hid (HK.out.1.is (by rw [HSZ.out]; omega))
      go_wp2_with fail
      all_goals (try go_ret)
      subst hb0
      have hbl := HBL.out
      rw [← HBB.out] at hbl
      refine HPY.out _ _ es (HB0.out.trans (HO.out.1.mono (by have := HBB.out; omega))) HIS.out ?_
      have h := ownsRow_base HO.out.2 (Nat.le_of_lt hbl)
      rw [← HK.out.2.2, ← HK.out.2.1]
      exact h
    have hbl : b0 < BB := by rw [HBB.out]; exact HBL.out
    have hBs : BB ≤ wr.heap.size := by rw [HBB.out]; exact HO.out.1.size
    have HBX4 : Hid (Row wr b0 [.slice a m.L.length c, .bool m.lines] 24) := HBX.out.below HO.out.1 hbl
    have q : wr.cell? ⟨b0, 0, none⟩ = some (.slice a m.L.length c) ∧ wr.cell? ⟨b0, 1, none⟩ = some (.bool m.lines) := ⟨HBX4.out.cell 0, HBX4.out.cell 1⟩
    have HIW : Hid (InsAt wr a m.L) := HPR.out.ins.below HO.out.1 (by rw [HBB.out]; exact Nat.le_refl _)
    have HTH := hid (ThreadsR_any wr m a c str f e ⟨HIW.out, HPR.out.wf, HPR.out.s, HPR.out.short, HPR.out.few⟩)
    have HBS := hid hBs
    go_wp2_with fail
    refine HTH.out.mono ?_
    rintro e2 w5 ⟨hb5, v5, ts, rfl, hts, hown⟩
    have htn := hts.len
    obtain ⟨a5, c5, rfl⟩ := ownsRow_shape hown
    have HTS := hid hts
    have HO5 := hid hown
    have HBX5 := hid (HBX4.out.below hb5 HBX4.out.lt)
    have HI5 := hid (HIW.out.below hb5 (Nat.le_refl _))
    have HQ5 : Hid (Below BB w1 w5 ∧ w5.ownsRow BB 3 1 (.slice ao kn co) kn XS) := ⟨HO.out.1.trans (hb5.mono hBs), ownsRow_heap HO.out.2 fun g hg => hb5.block g (HO.out.2.lt g hg).2⟩
    have hB5 : BB ≤ w5.heap.size := Nat.le_trans hBs hb5.size
    have q5 : w5.cell? ⟨b0, 0, none⟩ = some (.slice a m.L.length c) := HBX5.out.cell 0
    clear q hts hown hb5 HTH HO HBX4 HIW hBs
    go_wp2_with fail
    go_loopw [9, 28] (fun vf vi wx => ∃ q : Nat, q ≤ ts.length ∧ vi = .int .i64 q ∧ vf = .bool (any6 m (ts.take q)) ∧ Hid (wx = w5)) (fun _ vi _ => ts.length - (intOf vi).toNat)
    case atStart => exact ⟨0, by omega, rfl, rfl, rfl⟩
    case round =>
      obtain ⟨q, hq, rfl, rfl, HW⟩ := hrel
      have hw := HW.out
      subst hw
      rcases Nat.lt_or_ge q ts.length with hql | hqe
      · obtain ⟨g5, rfl, hg5, hc5⟩ := rowN_cell HO5.out hql
        have hkl := HTS.out.lt (List.getElem_mem hql)
        have HNX : Hid (any6 m (ts.take (q + 1)) = (any6 m (ts.take q) || decide ((m.inst ts[q]).op = 6))) := by
          show _ = _
          rw [List.take_add_one, List.getElem?_eq_getElem hql]
          exact any6_snoc m (ts.take q) ts[q]
        obtain ⟨fb, fo, hfa, hfb, hfc⟩ := HI5.out.at hkl
        subst hfa
        have hfi := Sim.inst_eq hkl
        rw [hfi] at HNX
        clear hfi
        generalize ts[q] = k at *
        generalize m.L[k] = ff at *
        obtain ⟨fop, fset, fx, fy⟩ := ff
        have qi := (cells7 (show CellsAt wr fb (fo + k * 7) [.int .i64 fop, .int .u64 fset.a, .int .u64 fset.b, .int .u64 fset.c, .int .u64 fset.d, .int .i64 fx, .int .i64 fy] from hfc)).1
        have hqI : (q : Int) < (ts.length : Int) := by omega
        have hkI : (k : Int) < (m.L.length : Int) := by omega
        clear hfc
        generalize any6 m (ts.take q) = b1 at *
        have HB2 : Hid (any6 m (ts.take (q + 1)) = (b1 || (fop == 6))) := by
          show _ = _
          rw [HNX.out]
          congr 1
        cases b1
        all_goals
          go_wp2_with fail
          refine ⟨⟨q + 1, hql, rfl, congrArg Value.bool (by rw [HB2.out]; simp), hid trivial⟩, ?_⟩
          show ts.length - ((q : Int) + 1).toNat < ts.length - (q : Int).toNat
          omega
      · obtain rfl : q = ts.length := by omega
        rw [List.take_length]
        have HA6 := hid (HTS.out.any6 hfe (by rw [HSZ.out]; exact hle))
        generalize any6 m ts = bf at *
        cases bf with
        | false =>
          have HEN := hid (HK.out.1.skip (fun h => by have := HA6.out.2 h; cases this))
          go_wp2_with fail
          all_goals
            refine ⟨⟨e + 1, ao, kn, co, es, XS, by omega, .inl (by omega), rfl, rfl, by omega, ⟨HEN.out, HK.out.2⟩, HQ5.out⟩, ?_⟩
            show str.size + 1 - ((e : Int) + 1).toNat < str.size + 1 - (e : Int).toNat
            omega
        | true =>
          have HEN := hid (HK.out.1.take hfe (HA6.out.1 rfl))
          have HAL : Hid (Below wr.heap.size wr (wr.alloc (.cells #[.int .i64 e] 3))) := Grow.alloc wr _
          have HOA : Hid ((wr.alloc (.cells #[.int .i64 e] 3)).ownsRow BB 3 1 (.slice ao kn co) kn XS) := ownsRow_heap HQ5.out.2 fun g hg => HAL.out.block g (HQ5.out.2.lt g hg).2
          obtain ⟨i0, hi, hz0, hz1, hz2⟩ := info_parts info_intT
          go_wp2_with (at_builtin; refine wpList_append_row rfl _ _ 35 rfl BB 3 i0 (.int .i64 0) 1 8 Try.underlying35 hi hz0 hz1 hz2 rfl (by decide) _ kn XS rfl HOA.out ⟨wr.heap.size, 0, none⟩ 1 1 [.int .i64 e] rfl rfl ?c1 ?c2 ?c3 ?c4 ?c5 (by decide) ?_)
          case c2 => rfl
          case c3 => unfold maxLen; omega
          case c4 => omega
          case c5 => omega
          intro a2 c2 w7 hown hgrow hnw
          have hlo : ∀ j, (Value.slice ao kn co).ownBlock = some j → BB ≤ j := fun j hj => (HOA.out.lt j hj).1
          have HR7 := hid ((HQ5.out.1.trans (HAL.out.mono hB5)).grown hgrow (by have h2 := HAL.out.size; omega) hlo)
          have HO7 := hid hown
          clear hown hgrow hnw hlo HOA HAL hi hz0 hz1 hz2
          go_wp2_with fail
          all_goals
            refine ⟨⟨e + 1, a2, kn + 1, c2, es ++ [e], XS ++ [.int .i64 e], by omega, .inl (by omega), rfl, rfl, by omega, ⟨HEN.out, by rw [List.length_append, HK.out.2.1]; rfl, by rw [List.map_append, HK.out.2.2]; rfl⟩, HR7.out, HO7.out⟩, ?_⟩
            show str.size + 1 - ((e : Int) + 1).toNat < str.size + 1 - (e : Int).toNat
            omega
end Go.Proofs.Ytnjcfggadeakpaa
