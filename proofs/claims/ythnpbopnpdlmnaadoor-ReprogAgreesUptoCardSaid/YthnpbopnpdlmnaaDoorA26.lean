/- The program of layer 9: each parse once. -/
import Derived.Test.YthnpbopnpdlmnaaDoorA25
import Derived.Test.YthnpbopnpdlmnaaDoorA18
import Derived.Deep.Cut
import Derived.Test.YthnpbopnpdlmnaaDoorA17
namespace Go.Proofs.YthnpbopnpdlmnaaDoor
open Go.RowKit
attribute [local go_sem] gives givesUpon

def exhV : Value := .iface 88 (.agg #[])
def exh : List PanicEntry := [{ v := exhV, recovered := false }]
def ParP (w : World) (r : Option (List Parse)) (e : Ending) (w' : World) : Prop :=
  Below w.heap.size w w' ∧ match r with
    | some l => ∃ a c, e = .returned (.slice a l.length c) ∧ PsQ (w.heap.size ≤ ·) w' (.slice a l.length c) l
    | none => e = .panicked exh
def PFine (q : Parse) : Prop := q.2.length ≤ 9 ∧ q.1 ≤ 1000000 ∧ ∀ x, x ∈ q.2 → -1 ≤ x.1 ∧ x.1 ≤ 1000000 ∧ -1 ≤ x.2 ∧ x.2 ≤ 1000000
theorem POk.fine {N L i : Nat} {q : Parse} (h : POk N L i q) (hN : N ≤ 9) (hL : L ≤ 1000000) : PFine q := by
  refine ⟨by have := h.2.2.1; omega, by have := h.2.1; omega, fun x hx => ?_⟩
  rcases h.2.2.2 x hx with rfl | h1
  · simp
  · omega
theorem nub_le9 (l : List Parse) : (nub l).length ≤ l.length := by
  unfold nub
  suffices h : ∀ (l m : List Parse), (l.foldl addP m).length ≤ l.length + m.length by simpa using h l []
  intro l
  induction l with
  | nil => intro m; simp
  | cons p l ih =>
    intro m
    have := ih (addP m p)
    have h2 : (addP m p).length ≤ m.length + 1 := by unfold addP; split <;> simp
    rw [List.foldl_cons, List.length_cons]
    omega
def onceR (l : List Parse) : Option (List Parse) := if most < (nub l).length then none else some (nub l)
def OnceL (w : World) (l : List Parse) (_v : Value) (k : Nat) (a : Option Addr) (m c : Nat) (wr : World) : Prop :=
  m = (nub (l.take k)).length ∧ OwnP wr w.heap.size (.slice a m c) (nub (l.take k)) ∧ KSet strV wr w.heap.size ((nub (l.take k)).map keyB) ∧ Below w.heap.size w wr
set_option maxRecDepth 100000 in
set_option maxHeartbeats 8000000 in
theorem ponce_big (w : World) (p : Nat → Prop) (v : Value) (l : List Parse) (h : PsQ p w v l) (hl : l.length ≤ 20000000) (hf : ∀ q, q ∈ l → PFine q) (ht : Tabs9 w) :
    Calls Tryd.prog 50 #[v] w (ParP w (onceR l)) := by
  obtain ⟨sa, sc, rfl⟩ := h.form
  obtain ⟨n, hn⟩ : ∃ n, n = l.length := ⟨_, rfl⟩
  have HN := hid hn
  have hn2 : n ≤ 20000000 := by omega
  rw [← hn] at h ⊢
  have HP := hid h
  have HF := hid hf
  have HT := hid ht
  have hmm := @run_makeMap Tryd.prog
  clear h hf ht hn hl
  go_enter Tryd.func50, Tryd.ntmps50
  go_wp2_with fail
  go_loopw [4, 11] (fun v4 v11 wr => ∃ (k : Nat) (a : Option Addr) (m c : Nat), v4 = .slice a m c ∧ v11 = .int .i64 k ∧ k ≤ n ∧ Hid (OnceL w l (.slice sa n sc) k a m c wr)) (fun _ v11 _ => n - (intOf v11).toNat)
  case atStart =>
    exact ⟨0, none, 0, 0, rfl, rfl, Nat.zero_le _, rfl, OwnP.nil _ _, KSet.new rfl, (Below.refl _ _).alloc (Nat.le_refl _) _⟩
  case round =>
    obtain ⟨k, a, m, c, rfl, rfl, hk, HX⟩ := hrel
    obtain ⟨h0, h1, h2, h3⟩ := HX.out
    by_cases hlt : k < n
    · have hltI : (k : Int) < (n : Int) := by omega
      obtain ⟨b, cc, u1, u2, ua, uc, hq, ev, hb, hbp, -, p0, p1, hsq⟩ := (HP.out.of (fun _ _ hr => hr.below h3 hr.lt) (fun _ _ hp hr => ⟨hr.below h3 hr.lt, hp⟩) : PsQ p wr _ l).get (k := k) (by have := HN.out; omega)
      injection ev with e1 e2 e3
      subst e1; subst e3
      clear e2
      have hfq := HF.out (u1, u2) (List.mem_of_getElem? hq)
      have hml : m ≤ 20000000 := by
        have h4 := nub_le9 (l.take k)
        rw [List.length_take] at h4
        omega
      have hal : Below wr.heap.size wr (wr.alloc (.cells #[.int .i64 u1, .slice ua u2.length uc] 71)) := (Below.refl _ _).alloc (Nat.le_refl _) _
      have HY := hid (⟨h0, h1.below hal, h2.below hal, h3.trans (hal.mono h3.size), Row.new (w := wr) (cs := [.int .i64 u1, .slice ua u2.length uc]) (T := 71) rfl, hsq.below hal⟩ : m = (nub (l.take k)).length ∧ OwnP _ _ _ _ ∧ KSet _ _ _ _ ∧ Below w.heap.size w (wr.alloc (.cells #[.int .i64 u1, .slice ua u2.length uc] 71)) ∧ Row _ wr.heap.size _ _ ∧ SpQ _ _ _)
      have HKEY := hid (pkey_any (wr.alloc (.cells #[.int .i64 u1, .slice ua u2.length uc] 71)) (u1, u2) ua uc HY.out.2.2.2.2.2 hfq.1 hfq.2.1 hfq.2.2 (HT.out.below HY.out.2.2.2.1 HT.out.big))
      have HQ := hid hq
      clear h0 h1 h2 h3 hal hq hsq hfq hbp HX
      go_wp2_with fail
      refine HKEY.out.mono ?_
      rintro e z ⟨rfl, hbz⟩
      have HZ := hid (⟨HY.out.1, HY.out.2.1.below hbz, HY.out.2.2.1.below hbz, HY.out.2.2.2.1.trans (hbz.mono HY.out.2.2.2.1.size), HY.out.2.2.2.2.1.below hbz HY.out.2.2.2.2.1.lt, HY.out.2.2.2.2.2.below hbz⟩ : m = (nub (l.take k)).length ∧ OwnP _ _ _ _ ∧ KSet _ _ _ _ ∧ Below w.heap.size w z ∧ Row _ wr.heap.size _ _ ∧ SpQ _ _ _)
      clear hbz HKEY HY p0 p1
      have q0 := HZ.out.2.2.2.2.1.cell 0
      have q1 := HZ.out.2.2.2.2.1.cell 1
      have HSTEP : Hid (nub (l.take (k + 1)) = addP (nub (l.take k)) (u1, u2)) := by show _ = _; rw [List.take_add_one, HQ.out]; exact nub_snoc _ _
      by_cases hm : (u1, u2) ∈ nub (l.take k)
      · have hd : decide (keyB (u1, u2) ∈ (nub (l.take k)).map keyB) = true := decide_eq_true (keyB_mem.2 hm)
        have HN2 : Hid (OnceL w l (.slice (some ⟨b, 0, none⟩) n sc) (k + 1) a m c z) := by
          have e : nub (l.take (k + 1)) = nub (l.take k) := by rw [HSTEP.out]; unfold addP; rw [if_pos hm]
          unfold OnceL Hid
          rw [e]
          exact ⟨HZ.out.1, HZ.out.2.1, HZ.out.2.2.1, HZ.out.2.2.2.1⟩
        have HKS := hid HZ.out.2.2.1
        clear hm HZ HSTEP
        go_wp2_with (with_reducible (refine wpList_lookup_kset rfl 101 _ _ rfl HKS.out rfl (keyB (u1, u2)) rfl 9 4 Tryd.underlying101 (KeyLaw.str Tryd.underlying9) (by kernel_rfl) ?_))
        refine ⟨⟨k + 1, a, m, c, rfl, by go_num, by omega, HN2.out⟩, ?_⟩
        simp [intOf] <;> omega
      · have hd : decide (keyB (u1, u2) ∈ (nub (l.take k)).map keyB) = false := decide_eq_false (fun h => hm (keyB_mem.1 h))
        have he : nub (l.take (k + 1)) = nub (l.take k) ++ [(u1, u2)] := by rw [HSTEP.out]; unfold addP; rw [if_neg hm]
        have HE := hid he
        have HM := hid hm
        clear hm he HSTEP
        have HKS := hid HZ.out.2.2.1
        have hnk : keyB (u1, u2) ∉ (nub (l.take k)).map keyB := fun h => HM.out (keyB_mem.1 h)
        go_upto_region 9 with (first
          | (with_reducible (refine wpList_lookup_kset rfl 101 _ _ rfl HKS.out rfl (keyB (u1, u2)) rfl 9 4 Tryd.underlying101 (KeyLaw.str Tryd.underlying9) (by kernel_rfl) ?_))
          | (with_reducible (refine wpList_update_kset rfl 101 _ _ _ rfl HKS.out rfl (keyB (u1, u2)) rfl hnk rfl 9 4 Tryd.underlying101 (KeyLaw.str Tryd.underlying9) ?_); intro w5 hks5 hb5))
        have hnw : w.heap.size < z.heap.size := HKS.out.lt
        have hrb := HZ.out.2.2.2.2.1.but hb5 (by simp; intro e; exact HKS.out.row (e ▸ HZ.out.2.2.2.2.1))
        have hsp5 : SpQ w5 (.slice ua u2.length uc) u2 := HZ.out.2.2.2.2.2.but hb5 (fun b8 cs8 hr8 hm8 => by rw [List.mem_singleton.1 hm8] at hr8; exact HKS.out.row hr8)
        have hop5 : OwnP w5 w.heap.size (.slice a m c) (nub (l.take k)) := HZ.out.2.1.keep (fun b8 cs8 hr8 => hr8.but hb5 (fun hm8 => by rw [List.mem_singleton.1 hm8] at hr8; exact HKS.out.row hr8)) (fun g hg => hb5.block g (HZ.out.2.1.lt g hg).2 (fun hm8 => by
          obtain ⟨cs8, hr8⟩ := HZ.out.2.1.row hg
          rw [List.mem_singleton.1 hm8] at hr8
          exact HKS.out.row hr8))
        have H5 := hid (⟨hop5, hks5, HZ.out.2.2.2.1.trans (hb5.below (Nat.le_of_lt hnw) (fun k hk => by rw [List.mem_singleton.1 hk]; exact Nat.le_refl _)), hrb, hsp5⟩ : OwnP _ _ _ _ ∧ KSet _ _ _ _ ∧ Below w.heap.size w w5 ∧ Row _ _ _ _ ∧ SpQ _ _ _)
        have q2 := H5.out.2.2.2.1.cell 0
        have q3 := H5.out.2.2.2.1.cell 1
        have HML5 := hid HZ.out.1
        have hsz5 := H5.out.2.2.1.size
        clear hrb hsp5 hop5 hks5 hb5 q0 q1 hnk hd
        go_wp2_with (at_builtin; refine wpList_append_psB rfl _ _ rfl w.heap.size _ (nub (l.take k)) [(u1, u2)] _ _ rfl ?c0 rfl (PsQ.lit (Row.new rfl) ?c1) ?c2 ?c3 ?_)
        case c0 => exact H5.out.1.below ((Below.refl _ _).alloc (Nat.le_refl _) _)
        case c1 => exact H5.out.2.2.2.2.below ((Below.refl _ _).alloc (Nat.le_refl _) _)
        case c2 => rw [← HML5.out]; simp; omega
        case c3 => simp; omega
        intro a2 n2 c2 w6 hn6 hown6 hg6 hnew6
        have hn7 : n2 = (nub (l.take (k + 1))).length := by rw [HE.out, List.length_append]; exact hn6
        rw [← HE.out] at hown6
        have hal : Below w5.heap.size w5 (w5.alloc (.cells #[.int .i64 u1, .slice ua u2.length uc] 71)) := (Below.refl _ _).alloc (Nat.le_refl _) _
        have hk6 : KSet strV w6 w.heap.size ((nub (l.take (k + 1))).map keyB) := by
          rw [HE.out, List.map_append]
          exact (H5.out.2.1.below hal).of_block (hg6.block w.heap.size (Nat.lt_of_lt_of_le H5.out.2.1.lt hal.size) (fun e => by
            obtain ⟨cs8, hr8⟩ := H5.out.1.row e.symm
            exact H5.out.2.1.row hr8))
        have hb6 : Below w.heap.size w w6 := (H5.out.2.2.1.trans (hal.mono hsz5)).grown hg6 (Nat.le_trans hsz5 hal.size) fun g hg => (H5.out.1.lt g hg).1
        have HFIN : Hid (OnceL w l (.slice (some ⟨b, 0, none⟩) n sc) (k + 1) a2 n2 c2 w6) := ⟨hn7, hown6, hk6, hb6⟩
        clear hn6 hn7 hown6 hg6 hnew6 hal hk6 hb6
        go_wp2_with fail
        refine ⟨⟨k + 1, a2, n2, c2, rfl, by go_num, by omega, HFIN.out⟩, ?_⟩
        simp [intOf] <;> omega
    · obtain rfl : k = n := by omega
      have hltI : ¬ (k : Int) < (k : Int) := by omega
      have htk : l.take k = l := by rw [HN.out]; exact List.take_length
      rw [htk] at h0 h1
      have hml : m ≤ 20000000 := by
        have h4 := nub_le9 l
        have := HN.out
        omega
      by_cases hov : most < (nub l).length
      · have hov2 : (4096 : Int) < (m : Int) := by unfold most at hov; omega
        have HR : Hid (onceR l = none) := by show _ = _; unfold onceR; rw [if_pos hov]
        have HB := hid h3
        clear h0 h1 h2 h3 htk HX hov
        go_wp2_with fail
        refine ⟨rfl, ?_⟩
        rw [HR.out]
        exact ⟨HB.out, rfl⟩
      · have hov2 : ¬ (4096 : Int) < (m : Int) := by unfold most at hov; omega
        have HR : Hid (onceR l = some (nub l)) := by show _ = _; unfold onceR; rw [if_neg hov]
        have HB := hid (⟨h0, h1, h3⟩ : _ ∧ _ ∧ _)
        clear h0 h1 h2 h3 htk HX hov
        go_wp2_with fail
        go_ret
        rw [HR.out]
        refine ⟨HB.out.2.2, a, c, by rw [← HB.out.1]; rfl, ?_⟩
        rw [← HB.out.1]
        exact HB.out.2.1.psq.mono fun b8 _ hb8 => hb8.1
theorem ponce_any (w : World) (p : Nat → Prop) (v : Value) (l : List Parse) (h : PsQ p w v l) (hl : l.length ≤ 200000) (hf : ∀ q, q ∈ l → PFine q) (ht : Tabs9 w) :
    Calls Tryd.prog 50 #[v] w (ParP w (onceR l)) := ponce_big w p v l h (by omega) hf ht
end Go.Proofs.YthnpbopnpdlmnaaDoor

/- A sort that keeps the order of equals, plainly. -/
namespace Go.Proofs.YthnpbopnpdlmnaaDoor

section
variable {α : Type} {key : α → Int}
def Desc (key : α → Int) (l : List α) : Prop := l.Pairwise fun x y => key y ≤ key x
def SameF (key : α → Int) (l m : List α) : Prop := ∀ e : Int, (l.filter fun x => key x == e) = m.filter fun x => key x == e
theorem SameF.refl (l : List α) : SameF key l l := fun _ => rfl
theorem SameF.symm {l m : List α} (h : SameF key l m) : SameF key m l := fun e => (h e).symm
theorem SameF.trans {l m n : List α} (h : SameF key l m) (k : SameF key m n) : SameF key l n := fun e => (h e).trans (k e)
theorem SameF.append {a b c d : List α} (h : SameF key a b) (k : SameF key c d) : SameF key (a ++ c) (b ++ d) := fun e => by rw [List.filter_append, List.filter_append, h e, k e]
theorem SameF.mem {l m : List α} (h : SameF key l m) {x : α} (hx : x ∈ l) : x ∈ m := by
  have h1 : x ∈ l.filter fun y => key y == key x := List.mem_filter.2 ⟨hx, by simp⟩
  rw [h] at h1
  exact (List.mem_filter.1 h1).1
theorem SameF.swap {v w : List α} (h : ∀ x, x ∈ v → ∀ y, y ∈ w → key x ≠ key y) : SameF key (v ++ w) (w ++ v) := by
  intro e
  rw [List.filter_append, List.filter_append]
  by_cases hv : ∃ x, x ∈ v ∧ key x = e
  · obtain ⟨x, hx, rfl⟩ := hv
    have : (w.filter fun y => key y == key x) = [] := by
      rw [List.filter_eq_nil_iff]
      intro y hy
      have := h x hx y hy
      simpa using fun h => this h.symm
    rw [this]; simp
  · have : (v.filter fun y => key y == e) = [] := by
      rw [List.filter_eq_nil_iff]
      intro y hy
      simpa using fun h => hv ⟨y, hy, h⟩
    rw [this]; simp
theorem SameF.length {l m : List α} (h : SameF key l m) : l.length = m.length := by
  induction l generalizing m with
  | nil =>
    cases m with
    | nil => rfl
    | cons y m => have := h.symm.mem (x := y) (by simp); cases this
  | cons x l ih =>
    have h1 := h (key x)
    obtain ⟨a, b, e⟩ : ∃ a b, m = a ++ x :: b ∧ ∀ y, y ∈ a → key y ≠ key x := by
      have : ∃ r, (m.filter fun y => key y == key x) = x :: r := ⟨_, by rw [← h1]; simp; rfl⟩
      obtain ⟨r, hr⟩ := this
      rw [List.filter_eq_cons_iff] at hr
      obtain ⟨a, b, e1, e2, e3, e4⟩ := hr
      exact ⟨a, b, e1, fun y hy => by have := e2 y hy; simpa using this⟩
    obtain ⟨rfl, ha⟩ := e
    have : SameF key l (a ++ b) := by
      intro e
      have h2 := h e
      simp only [List.filter_append, List.filter_cons] at h2 ⊢
      by_cases hk : key x = e
      · subst hk
        have : (a.filter fun y => key y == key x) = [] := by
          rw [List.filter_eq_nil_iff]; intro y hy; simpa using ha y hy
        simp only [this, beq_self_eq_true, if_true, List.nil_append, List.cons.injEq, true_and] at h2 ⊢
        exact h2
      · have hb : (key x == e) = false := by simpa using hk
        simp only [hb] at h2
        exact h2
    rw [List.length_cons, ih this]; simp; omega
theorem Desc.append {a b : List α} (h : Desc key a) (k : Desc key b) (hab : ∀ x, x ∈ a → ∀ y, y ∈ b → key y ≤ key x) : Desc key (a ++ b) := List.pairwise_append.2 ⟨h, k, hab⟩
theorem Desc.left {a b : List α} (h : Desc key (a ++ b)) : Desc key a := (List.pairwise_append.1 h).1
theorem Desc.right {a b : List α} (h : Desc key (a ++ b)) : Desc key b := (List.pairwise_append.1 h).2.1
theorem Desc.cross {a b : List α} (h : Desc key (a ++ b)) {x y : α} (hx : x ∈ a) (hy : y ∈ b) : key y ≤ key x := (List.pairwise_append.1 h).2.2 x hx y hy
theorem Desc.ends {a b c d : List α} (h : Desc key (a ++ b)) (k : Desc key (c ++ d)) (r : a = [] ∨ d = [] ∨ ∃ x y, a.getLast? = some x ∧ d.head? = some y ∧ key y ≤ key x) : ∀ x, x ∈ a → ∀ y, y ∈ d → key y ≤ key x := by
  intro x hx y hy
  rcases r with rfl | rfl | ⟨x0, y0, h1, h2, h3⟩
  · cases hx
  · cases hy
  · have hxx : key x0 ≤ key x := by
      obtain ⟨a', rfl⟩ := List.getLast?_eq_some_iff.1 h1
      rcases List.mem_append.1 hx with h4 | h4
      · exact h.left.cross h4 (by simp)
      · have := List.mem_singleton.1 h4; subst this; exact Int.le_refl _
    have hyy : key y ≤ key y0 := by
      cases d with
      | nil => cases hy
      | cons d0 d =>
        simp at h2; subst h2
        rcases List.mem_cons.1 hy with h4 | h4
        · subst h4; exact Int.le_refl _
        · exact (List.pairwise_cons.1 k.right).1 y h4
    omega
theorem merge_parts {u v w z M1 M2 : List α} (h1 : Desc key (u ++ v)) (h2 : Desc key (w ++ z)) (hu : u = [] ∨ z = [] ∨ ∃ x y, u.getLast? = some x ∧ z.head? = some y ∧ key y ≤ key x)
    (hv : v = [] ∨ w = [] ∨ ∃ x y, v.head? = some x ∧ w.getLast? = some y ∧ key x < key y) (hM1 : Desc key M1) (hM2 : Desc key M2) (hs1 : SameF key (u ++ w) M1) (hs2 : SameF key (v ++ z) M2) :
    Desc key (M1 ++ M2) ∧ SameF key (u ++ v ++ (w ++ z)) (M1 ++ M2) := by
  have huz := Desc.ends h1 h2 hu
  have hvw : ∀ x, x ∈ v → ∀ y, y ∈ w → key x < key y := by
    intro x hx y hy
    rcases hv with rfl | rfl | ⟨x0, y0, e1, e2, e3⟩
    · cases hx
    · cases hy
    · have hxx : key x ≤ key x0 := by
        cases v with
        | nil => cases hx
        | cons d0 d =>
          simp at e1; subst e1
          rcases List.mem_cons.1 hx with h4 | h4
          · subst h4; exact Int.le_refl _
          · exact (List.pairwise_cons.1 h1.right).1 x h4
      have hyy : key y0 ≤ key y := by
        obtain ⟨a', rfl⟩ := List.getLast?_eq_some_iff.1 e2
        rcases List.mem_append.1 hy with h4 | h4
        · exact h2.left.cross h4 (by simp)
        · have := List.mem_singleton.1 h4; subst this; exact Int.le_refl _
      omega
  refine ⟨hM1.append hM2 fun x hx y hy => ?_, ?_⟩
  · have hx' := hs1.symm.mem hx
    have hy' := hs2.symm.mem hy
    rcases List.mem_append.1 hx' with hx' | hx' <;> rcases List.mem_append.1 hy' with hy' | hy'
    · exact h1.cross hx' hy'
    · exact huz x hx' y hy'
    · have := hvw y hy' x hx'; omega
    · exact h2.cross hx' hy'
  · have e1 : u ++ v ++ (w ++ z) = u ++ ((v ++ w) ++ z) := by simp
    have e2 : SameF key (u ++ ((v ++ w) ++ z)) (u ++ ((w ++ v) ++ z)) := (SameF.refl _).append ((SameF.swap fun x hx y hy => by have := hvw x hx y hy; omega).append (SameF.refl _))
    rw [e1]
    refine e2.trans ?_
    rw [show u ++ ((w ++ v) ++ z) = (u ++ w) ++ (v ++ z) by simp]
    exact hs1.append hs2
theorem insert_left {x : α} {a b : List α} (h : Desc key (a ++ b)) (ha : a = [] ∨ ∃ y, a.getLast? = some y ∧ key x < key y) (hb : b = [] ∨ ∃ y, b.head? = some y ∧ key y ≤ key x) : Desc key (a ++ x :: b) ∧ SameF key (x :: (a ++ b)) (a ++ x :: b) := by
  have hax : ∀ y, y ∈ a → key x < key y := by
    intro y hy
    rcases ha with rfl | ⟨y0, h1, h2⟩
    · cases hy
    · obtain ⟨a', rfl⟩ := List.getLast?_eq_some_iff.1 h1
      rcases List.mem_append.1 hy with h4 | h4
      · have := h.left.cross h4 (y := y0) (by simp); omega
      · have := List.mem_singleton.1 h4; subst this; exact h2
  have hbx : ∀ y, y ∈ b → key y ≤ key x := by
    intro y hy
    rcases hb with rfl | ⟨y0, h1, h2⟩
    · cases hy
    · cases b with
      | nil => cases hy
      | cons d0 d =>
        simp at h1; subst h1
        rcases List.mem_cons.1 hy with h4 | h4
        · subst h4; exact h2
        · have := (List.pairwise_cons.1 h.right).1 y h4; omega
  refine ⟨h.left.append (List.pairwise_cons.2 ⟨hbx, h.right⟩) fun y hy z hz => ?_, ?_⟩
  · rcases List.mem_cons.1 hz with rfl | hz
    · have := hax y hy; omega
    · exact h.cross hy hz
  · have e := SameF.swap (key := key) (v := [x]) (w := a) (fun y hy z hz => by have := List.mem_singleton.1 hy; subst this; have := hax z hz; omega)
    have := e.append (SameF.refl b)
    simpa using this
theorem insert_right {x : α} {a b : List α} (h : Desc key (a ++ b)) (ha : a = [] ∨ ∃ y, a.getLast? = some y ∧ key x ≤ key y) (hb : b = [] ∨ ∃ y, b.head? = some y ∧ key y < key x) : Desc key (a ++ x :: b) ∧ SameF key (a ++ b ++ [x]) (a ++ x :: b) := by
  have hax : ∀ y, y ∈ a → key x ≤ key y := by
    intro y hy
    rcases ha with rfl | ⟨y0, h1, h2⟩
    · cases hy
    · obtain ⟨a', rfl⟩ := List.getLast?_eq_some_iff.1 h1
      rcases List.mem_append.1 hy with h4 | h4
      · have := h.left.cross h4 (y := y0) (by simp); omega
      · have := List.mem_singleton.1 h4; subst this; exact h2
  have hbx : ∀ y, y ∈ b → key y < key x := by
    intro y hy
    rcases hb with rfl | ⟨y0, h1, h2⟩
    · cases hy
    · cases b with
      | nil => cases hy
      | cons d0 d =>
        simp at h1; subst h1
        rcases List.mem_cons.1 hy with h4 | h4
        · subst h4; exact h2
        · have := (List.pairwise_cons.1 h.right).1 y h4; omega
  refine ⟨h.left.append (List.pairwise_cons.2 ⟨fun y hy => by have := hbx y hy; omega, h.right⟩) fun y hy z hz => ?_, ?_⟩
  · rcases List.mem_cons.1 hz with rfl | hz
    · exact hax y hy
    · exact h.cross hy hz
  · have e := SameF.swap (key := key) (v := b) (w := [x]) (fun y hy z hz => by have := List.mem_singleton.1 hz; subst this; have := hbx y hy; omega)
    have := (SameF.refl a).append e
    simpa using this
end
end Go.Proofs.YthnpbopnpdlmnaaDoor

/- The program of layer 9: the sort that keeps the order of equals: a row of parses in memory. -/
namespace Go.Proofs.YthnpbopnpdlmnaaDoor
open Go.RowKit
attribute [local go_sem] gives givesUpon

abbrev Zel := Parse × (Option Addr × Nat × Nat)
def zcell (z : Zel) : List Value := [.int .i64 z.1.1, .slice z.2.1 z.2.2.1 z.2.2.2]
def zkey (z : Zel) : Int := z.1.1
theorem zcells_length (L : List Zel) : (L.flatMap zcell).length = L.length * 2 := by
  induction L with
  | nil => rfl
  | cons z L ih => rw [List.flatMap_cons, List.length_append, ih, List.length_cons]; show 2 + _ = _; omega
theorem zcells_get : ∀ (L : List Zel) (k : Nat) (z : Zel), L[k]? = some z → (L.flatMap zcell)[k * 2]? = some (.int .i64 z.1.1) ∧ (L.flatMap zcell)[k * 2 + 1]? = some (.slice z.2.1 z.2.2.1 z.2.2.2)
  | [], k, z, h => by simp at h
  | y :: L, 0, z, h => by
    have := Option.some.inj h
    subst this
    exact ⟨rfl, rfl⟩
  | y :: L, k + 1, z, h => by
    obtain ⟨h1, h2⟩ := zcells_get L k z (by simpa using h)
    have e : (y :: L).flatMap zcell = .int .i64 y.1.1 :: .slice y.2.1 y.2.2.1 y.2.2.2 :: L.flatMap zcell := rfl
    rw [e, show (k + 1) * 2 = k * 2 + 1 + 1 by omega]
    exact ⟨by simpa using h1, by simpa using h2⟩
theorem zcells_set : ∀ (L : List Zel) (k : Nat) (z : Zel) (more : List Value), k < L.length → ((L.flatMap zcell ++ more).set (k * 2) (.int .i64 z.1.1)).set (k * 2 + 1) (.slice z.2.1 z.2.2.1 z.2.2.2) = (L.set k z).flatMap zcell ++ more
  | [], k, z, more, h => by simp at h
  | y :: L, 0, z, more, h => rfl
  | y :: L, k + 1, z, more, h => by
    have ih := zcells_set L k z more (by simpa using h)
    have e : (y :: L).flatMap zcell ++ more = .int .i64 y.1.1 :: .slice y.2.1 y.2.2.1 y.2.2.2 :: (L.flatMap zcell ++ more) := rfl
    rw [e, show (k + 1) * 2 = k * 2 + 1 + 1 by omega]
    simp only [List.set_cons_succ]
    rw [ih]
    rfl
def SrtAt (w0 : World) (b n : Nat) (more : List Value) (L : List Zel) (w : World) : Prop := Row w b (L.flatMap zcell ++ more) 71 ∧ But [b] w0 w ∧ L.length = n ∧ b < w0.heap.size
section
variable {w0 w x : World} {b n : Nat} {more : List Value} {L : List Zel}
theorem SrtAt.later (h : SrtAt w0 b n more L w) (hb : Below w.heap.size w x) : SrtAt w0 b n more L x := ⟨h.1.below hb h.1.lt, h.2.1.later (But.of_below hb : But [b] w x) (fun _i hi => .inl hi), h.2.2⟩
theorem SrtAt.cells (h : SrtAt w0 b n more L w) {k : Nat} {z : Zel} (hz : L[k]? = some z) : w.cell? ⟨b, k * 2, none⟩ = some (.int .i64 z.1.1) ∧ w.cell? ⟨b, k * 2 + 1, none⟩ = some (.slice z.2.1 z.2.2.1 z.2.2.2) := by
  have h1 := zcells_get L k z hz
  have hk := (List.getElem?_eq_some_iff.1 hz).1
  have hl := zcells_length L
  exact ⟨by rw [h.1.cell, List.getElem?_append_left (by omega)]; exact h1.1, by rw [h.1.cell, List.getElem?_append_left (by omega)]; exact h1.2⟩
theorem SrtAt.free (h : SrtAt w0 b n more L w) (k : Nat) : w.frozen? ⟨b, k, none⟩ = false := h.1.free k
theorem SrtAt.put (h : SrtAt w0 b n more L w) {k : Nat} (z : Zel) (hk : k < n) : SrtAt w0 b n more (L.set k z) ((w.setCell ⟨b, k * 2, none⟩ (.int .i64 z.1.1)).setCell ⟨b, k * 2 + 1, none⟩ (.slice z.2.1 z.2.2.1 z.2.2.2)) := by
  refine ⟨?_, (h.2.1.setCell (p := ⟨b, k * 2, none⟩) (.inl (by simp)) _).setCell (p := ⟨b, k * 2 + 1, none⟩) (.inl (by simp)) _, by rw [List.length_set]; exact h.2.2.1, h.2.2.2⟩
  have h1 := (h.1.set (k * 2) (.int .i64 z.1.1)).set (k * 2 + 1) (.slice z.2.1 z.2.2.1 z.2.2.2)
  rw [zcells_set L k z more (by have := h.2.2.1; omega)] at h1
  exact h1
end
set_option maxRecDepth 100000 in
set_option maxHeartbeats 4000000 in
theorem pcmp_any (w : World) (p q : Nat) (a1 a2 : Option Addr) (n1 n2 c1 c2 : Nat) (hp : p ≤ 1000000) (hq : q ≤ 1000000) :
    Calls Tryd.prog 60 #[.agg #[.int .i64 p, .slice a1 n1 c1], .agg #[.int .i64 q, .slice a2 n2 c2]] w fun e w' => e = .returned (.int .i64 ((q : Int) - p)) ∧ Below w.heap.size w w' := by
  have hb : Below w.heap.size w ((w.alloc (.cells #[.int .i64 p, .slice a1 n1 c1] 71)).alloc (.cells #[.int .i64 q, .slice a2 n2 c2] 71)) := ((Below.refl _ _).alloc (Nat.le_refl _) _).alloc (by simp) _
  have HB := hid hb
  have hw : IntKind.i64.wrap ((q : Int) - p) = (q : Int) - p := by rw [IntKind.wrap_i64]; omega
  clear hb
  go_enter Tryd.func60, Tryd.ntmps60
  go_wp2_with fail
  go_ret
  exact ⟨rfl, HB.out⟩
end Go.Proofs.YthnpbopnpdlmnaaDoor
