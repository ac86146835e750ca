/- The program's learn: the walk. -/
import Derived.Test.YtibfnmkeghkdpaaLearn
import Derived.Test.YtibfnmkeghkdpaaApp
import Derived.Test.YtibfnmkeghkdpaaMap
import Derived.Test.YtibfnmkeghkdpaaRefNamed
import Derived.Deep.DeepCutAuto
import Derived.Deep.CutBlock
namespace Go.Proofs.Ytibfnmkeghkdpaa
open Go.RowKit
attribute [local go_sem] gives givesUpon

-- def BOX := .cells #[.int .i64 p.op, .int .u64 p.set.a, .int .u64 p.set.b, .int .u64 p.set.c, .int .u64 p.set.d, .int .i64 p.lo, .int .i64 p.hi, .int .i64 p.gr, .slice ad xs.length cap] 28
-- def BL := [.int .i64 p.op, .int .u64 p.set.a, .int .u64 p.set.b, .int .u64 p.set.c, .int .u64 p.set.d, .int .i64 p.lo, .int .i64 p.hi, .int .i64 p.gr, .slice ad xs.length cap]
-- def C0 := [.bool false, .int .i64 0, .int .i64 0, .int .u64 0, .int .u64 0, .int .u64 0, .int .u64 0]

theorem info_facts : (Try.prog.info? 66).map (fun i => (i.zero, i.size, i.bytes)) = some (some (.agg #[.bool false, .int .i64 0, .int .i64 0, .int .u64 0, .int .u64 0, .int .u64 0, .int .u64 0]), 7, 56) := by kernel_rfl

/-- The slice value v owns the facts l. -/
def OwnFacts (w : World) (base : Nat) (v : Value) (l : List Facts) : Prop := w.ownsRow base 66 7 v l.length (l.flatMap Facts.cells)
def encF (f : Facts) : Value := .agg f.cells.toArray
/-- Block M is the map of what the groups are known to be. -/
def GMap (w : World) (M : Nat) (g : Int → Option Facts) : Prop := IMap w M (fun k => (g k).map encF)

theorem OwnFacts.lt {w : World} {base : Nat} {v : Value} {l : List Facts} (h : OwnFacts w base v l) : ∀ g, v.ownBlock = some g → base ≤ g ∧ g < w.heap.size := World.ownsRow.lt h
theorem OwnFacts.but {w w' : World} {base M : Nat} {v : Value} {l : List Facts} (h : OwnFacts w base v l) (hb : But [M] w w') (hM : M < base) : OwnFacts w' base v l :=
  World.ownsRow.kept h (row := some M) ⟨hb.os, hb.tape, hb.output, hb.size, fun j hj hn => hb.block j hj (by simp; intro e; exact hn (by rw [e]))⟩ (by
    cases hv : v.ownBlock with
    | none => exact .inl rfl
    | some g => refine .inr fun e => ?_; cases e; have := h.lt _ hv; omega)
theorem OwnFacts.alloc {w : World} {base : Nat} {v : Value} {l : List Facts} (h : OwnFacts w base v l) (o : Obj) : OwnFacts (w.alloc o) base v l := World.ownsRow.alloc h o
theorem GMap.alloc {w : World} {M : Nat} {g : Int → Option Facts} (h : GMap w M g) (o : Obj) : GMap (w.alloc o) M g := IMap.alloc h o
theorem GMap.lt {w : World} {M : Nat} {g : Int → Option Facts} (h : GMap w M g) : M < w.heap.size := IMap.lt h
theorem flatF_len (l : List Facts) : (l.flatMap Facts.cells).length = l.length * 7 := by
  induction l with
  | nil => rfl
  | cons f l ih => simp [List.flatMap_cons, ih, Facts.cells]; omega
theorem Re.typed_kid {p : Pay} {xs : List Re} (h : (Re.mk p xs).typed = true) (k : Nat) (hk : k < xs.length) : xs[k].typed = true := by
  rw [Re.typed] at h
  cases h2 : xs[k].typed with
  | true => rfl
  | false => have := Re.typeds_get xs k xs[k] (by simp [hk]) h2; simp [this] at h

theorem grown_block {w w' : World} {v : Value} {base : Nat} (h : w.grownBy w' v.ownBlock) (hv : ∀ g, v.ownBlock = some g → base ≤ g) (k : Nat) (h1 : k < base) (h2 : k < w.heap.size) : w'.heap[k]? = w.heap[k]? :=
  h.block k h2 (fun e => by have := hv k e.symm; omega)

theorem But.set7 {S : List Nat} {w x : World} {B : Nat} (h : But S w x) (hB : w.heap.size ≤ B) (a' b' c' d' e' f' g' : Value) : But S w (((((((x.setCell ⟨B, 0, none⟩ a').setCell ⟨B, 1, none⟩ b').setCell ⟨B, 2, none⟩ c').setCell ⟨B, 3, none⟩ d').setCell ⟨B, 4, none⟩ e').setCell ⟨B, 5, none⟩ f').setCell ⟨B, 6, none⟩ g') :=
  ((((((h.setCell (.inr hB) _).setCell (.inr hB) _).setCell (.inr hB) _).setCell (.inr hB) _).setCell (.inr hB) _).setCell (.inr hB) _).setCell (.inr hB) _
theorem IMap.other7 {w : World} {M B : Nat} {f : Int → Option Value} (h : IMap w M f) (hn : M ≠ B) (a' b' c' d' e' f' g' : Value) : IMap (((((((w.setCell ⟨B, 0, none⟩ a').setCell ⟨B, 1, none⟩ b').setCell ⟨B, 2, none⟩ c').setCell ⟨B, 3, none⟩ d').setCell ⟨B, 4, none⟩ e').setCell ⟨B, 5, none⟩ f').setCell ⟨B, 6, none⟩ g') M f :=
  ((((((h.other hn _ _).other hn _ _).other hn _ _).other hn _ _).other hn _ _).other hn _ _).other hn _ _
theorem flatF_get (l : List Facts) : ∀ (k : Nat) (f : Facts) (i : Nat), l[k]? = some f → i < 7 → (l.flatMap Facts.cells)[k * 7 + i]? = f.cells[i]? := by
  induction l with
  | nil => intro k f i h; simp at h
  | cons a l ih =>
    intro k f i h hi
    cases k with
    | zero =>
      simp at h
      subst h
      rw [List.flatMap_cons, Nat.zero_mul, Nat.zero_add, List.getElem?_append_left (by simp [Facts.cells]; omega)]
    | succ k =>
      rw [List.flatMap_cons, List.getElem?_append_right (by simp [Facts.cells]; omega)]
      have : (k + 1) * 7 + i - a.cells.length = k * 7 + i := by simp [Facts.cells]; omega
      rw [this]
      exact ih k f i (by simpa using h) hi
/-- An element of what is owned. -/
theorem OwnFacts.elem {w : World} {base : Nat} {v : Value} {l : List Facts} (h : OwnFacts w base v l) (k : Nat) (f : Facts) (hk : l[k]? = some f) : ∃ g c, v = .slice (some ⟨g, 0, none⟩) l.length c ∧ base ≤ g ∧ g < w.heap.size ∧ CellsAt w g (k * 7) f.cells := by
  have hkl : k < l.length := by
    rcases Nat.lt_or_ge k l.length with h1 | h1
    · exact h1
    · simp [h1] at hk
  rcases h.2 with ⟨_, h0⟩ | ⟨g, cap, cur, rfl, hg, hcur, hnc, hcm, hsz, hx⟩
  · omega
  · refine ⟨g, cap, rfl, hg, ?_, fun j u hj => ?_⟩
    · exact (h.lt g rfl).2
    · have hj7 : j < 7 := by
        rcases Nat.lt_or_ge j 7 with h1 | h1
        · exact h1
        · simp [Facts.cells, h1] at hj
      rw [World.ownsRow.cellAt h (k * 7 + j) (by omega), flatF_get l k f j hk hj7, hj]

theorem wpList_lookup_gmap {ops : Array Oper} {rest : List Oper} {o : Oper} {a : Act} {w : World} {Q : Exit → Act → World → Prop} (hgd : o.guard = none) (x y : Operand) (ho : o.op = .lookup 85 x y false) (M : Nat) (g : Int → Option Facts) (h : GMap w M g)
    (hx : a.eval x = .map (some M)) (k : Int) (hy : a.eval y = .int .i64 k) (F : Facts) (hF : (g k).getD Facts.zero = F)
    (hn : wpList Try.prog ops Q rest (a.put o.dst (.agg #[.bool F.null, .int .i64 F.least, .int .i64 F.most, .int .u64 F.first.a, .int .u64 F.first.b, .int .u64 F.first.c, .int .u64 F.first.d])) w) : wpList Try.prog ops Q (o :: rest) a w := by
  refine wpList_lookup_imap hgd 85 x y ho M _ h hx k hy 3 66 Try.underlying85 Try.underlying3 (encF Facts.zero) (by kernel_rfl) ?_
  have e : ((fun k => (g k).map encF) k).getD (encF Facts.zero) = encF F := by
    rw [← hF]
    show ((g k).map encF).getD _ = _
    cases g k <;> rfl
  rw [e]
  exact hn

theorem CellsAt.c7 {w : World} {b o : Nat} {F : Facts} (h : CellsAt w b o F.cells) : (w.cell? ⟨b, o, none⟩ = some (.bool F.null) ∧ w.cell? ⟨b, o + 1, none⟩ = some (.int .i64 F.least) ∧ w.cell? ⟨b, o + 2, none⟩ = some (.int .i64 F.most) ∧ w.cell? ⟨b, o + 3, none⟩ = some (.int .u64 F.first.a) ∧ w.cell? ⟨b, o + 4, none⟩ = some (.int .u64 F.first.b) ∧ w.cell? ⟨b, o + 5, none⟩ = some (.int .u64 F.first.c) ∧ w.cell? ⟨b, o + 6, none⟩ = some (.int .u64 F.first.d)) :=
  ⟨h 0 _ rfl, h 1 _ rfl, h 2 _ rfl, h 3 _ rfl, h 4 _ rfl, h 5 _ rfl, h 6 _ rfl⟩
theorem OwnFacts.cap {w : World} {base : Nat} {a : Option Addr} {n c : Nat} {l : List Facts} (h : OwnFacts w base (.slice a n c) l) : l.length ≤ c := by
  rcases h.2 with ⟨_, h0⟩ | ⟨g, cap, cur, hv, hg, hcur, hnc, hcm, hsz, hx⟩
  · omega
  · injection hv with e1 e2 e3; omega
theorem Re.learns_two {p : Pay} {xs : List Re} (h : (Re.mk p xs).typed = true) (hop : p.op = 3 ∨ p.op = 4) (g : Int → Option Facts) : ∃ F l, (Re.learns xs g).1 = F :: l ∧ 1 ≤ l.length := by
  have hl : 2 ≤ xs.length := by
    rw [Re.typed] at h
    simp only [Bool.and_eq_true] at h
    have h1 := h.1
    unfold Pay.shaped at h1
    rcases hop with o | o <;> simp [o] at h1 <;> omega
  have := Re.learns_len xs g
  match hx : (Re.learns xs g).1 with
  | F :: l => exact ⟨F, l, rfl, by rw [hx] at this; simp at this; omega⟩
  | [] => rw [hx] at this; simp at this; omega
theorem Re.learns_one {p : Pay} {xs : List Re} (h : (Re.mk p xs).typed = true) (hop : p.op = 5 ∨ p.op = 6) (g : Int → Option Facts) : ∃ F, (Re.learns xs g).1 = [F] := by
  have hl : xs.length = 1 := by
    rw [Re.typed] at h
    simp only [Bool.and_eq_true] at h
    have h1 := h.1
    unfold Pay.shaped at h1
    rcases hop with o | o <;> simp [o] at h1 <;> omega
  have := Re.learns_len xs g
  match hx : (Re.learns xs g).1 with
  | [F] => exact ⟨F, rfl⟩
  | [] => rw [hx] at this; simp at this; omega
  | _ :: _ :: _ => rw [hx] at this; simp at this; omega

theorem CellsAt.but {S : List Nat} {w w' : World} {b o : Nat} {cs : List Value} (h : CellsAt w b o cs) (hb : But S w w') (hS : b ∉ S) : CellsAt w' b o cs := by
  intro j v hj
  have hn : cs ≠ [] := by rintro rfl; simp at hj
  rw [World.cell?_of_block (hb.block b (h.block hn) hS)]
  exact h j v hj
theorem But.of_below' {S : List Nat} {w w' : World} (h : Below w.heap.size w w') : But S w w' := But.of_below h
theorem wpList_update_gmap {ops : Array Oper} {rest : List Oper} {o : Oper} {a : Act} {w : World} {Q : Exit → Act → World → Prop} (hgd : o.guard = none) (x y z : Operand) (ho : o.op = .mapUpdate 85 x y z) (M : Nat) (g : Int → Option Facts) (h : GMap w M g)
    (hx : a.eval x = .map (some M)) (k : Int) (hy : a.eval y = .int .i64 k) (F : Facts) (hz : a.eval z = .agg #[.bool F.null, .int .i64 F.least, .int .i64 F.most, .int .u64 F.first.a, .int .u64 F.first.b, .int .u64 F.first.c, .int .u64 F.first.d])
    (hn : ∀ w', GMap w' M (fun x => if x = k then some F else g x) → But [M] w w' → wpList Try.prog ops Q rest (a.put o.dst undef) w') : wpList Try.prog ops Q (o :: rest) a w := by
  refine wpList_update_imap hgd 85 x y z ho M _ h hx k hy _ hz 3 66 Try.underlying85 Try.underlying3 fun w' h1 h2 => hn w' ?_ h2
  have e : (fun x => (if x = k then some F else g x).map encF) = (fun x => if x = k then some (.agg #[.bool F.null, .int .i64 F.least, .int .i64 F.most, .int .u64 F.first.a, .int .u64 F.first.b, .int .u64 F.first.c, .int .u64 F.first.d]) else (g x).map encF) := by
    funext x
    split <;> rfl
  unfold GMap
  rw [e]
  exact h1

theorem Row.other4' {w : World} {B B' : Nat} {cs : List Value} {T : TypeId} (h : Row w B cs T) (hn : B ≠ B') (a' b' c' d' : Value) : Row ((((w.setCell ⟨B', 3, none⟩ a').setCell ⟨B', 4, none⟩ b').setCell ⟨B', 5, none⟩ c').setCell ⟨B', 6, none⟩ d') B cs T :=
  (((h.other hn _ _).other hn _ _).other hn _ _).other hn _ _

/-- What the loop over the operands keeps. -/
def LAt (w : World) (M : Nat) (p : Pay) (sl : Value) (v : Value) (l : List Facts) (g : Int → Option Facts) (wr : World) : Prop :=
  OwnFacts wr (w.heap.size + 2) v l ∧ GMap wr M g ∧ Row wr w.heap.size (p.cells sl) 28 ∧ Row wr (w.heap.size + 1) [.bool false, .int .i64 0, .int .i64 0, .int .u64 0, .int .u64 0, .int .u64 0, .int .u64 0] 66 ∧ But [M] w wr ∧ GWf g ∧ ∀ f, f ∈ l → f.wf

theorem LAt.alloc {w : World} {M : Nat} {p : Pay} {sl v : Value} {l : List Facts} {g : Int → Option Facts} {wr : World} (h : LAt w M p sl v l g wr) (o : Obj) : LAt w M p sl v l g (wr.alloc o) :=
  ⟨h.1.alloc o, h.2.1.alloc o, h.2.2.1.alloc o, h.2.2.2.1.alloc o, h.2.2.2.2.1.alloc o, h.2.2.2.2.2.1, h.2.2.2.2.2.2⟩

theorem But.set7m {S : List Nat} {w x : World} {B : Nat} (h : But S w x) (hB : B ∈ S) (a' b' c' d' e' f' g' : Value) : But S w (((((((x.setCell ⟨B, 0, none⟩ a').setCell ⟨B, 1, none⟩ b').setCell ⟨B, 2, none⟩ c').setCell ⟨B, 3, none⟩ d').setCell ⟨B, 4, none⟩ e').setCell ⟨B, 5, none⟩ f').setCell ⟨B, 6, none⟩ g') :=
  ((((((h.setCell (.inl hB) _).setCell (.inl hB) _).setCell (.inl hB) _).setCell (.inl hB) _).setCell (.inl hB) _).setCell (.inl hB) _).setCell (.inl hB) _
theorem OwnFacts.but1 {w w' : World} {base B gb n c : Nat} {l : List Facts} (h : OwnFacts w base (.slice (some ⟨gb, 0, none⟩) n c) l) (hb : But [B] w w') (hg : gb ≠ B) : OwnFacts w' base (.slice (some ⟨gb, 0, none⟩) n c) l :=
  World.ownsRow.kept h (row := some B) ⟨hb.os, hb.tape, hb.output, hb.size, fun j hj hn => hb.block j hj (by simp; intro e; exact hn (by rw [e]))⟩ (by
    refine .inr fun e => ?_
    simp [Value.ownBlock] at e
    exact hg e)
theorem LAt.but1 {w : World} {M : Nat} {p : Pay} {sl : Value} {gb n c : Nat} {l : List Facts} {g : Int → Option Facts} {wr x : World} {B : Nat} (h : LAt w M p sl (.slice (some ⟨gb, 0, none⟩) n c) l g wr) (hb : But [B] wr x) (hg : gb ≠ B) (hM : M < w.heap.size) (hB : w.heap.size + 2 ≤ B) : LAt w M p sl (.slice (some ⟨gb, 0, none⟩) n c) l g x :=
  ⟨h.1.but1 hb hg, IMap.of_block h.2.1 (hb.block M h.2.1.lt (by simp; omega)), h.2.2.1.but hb (by simp; omega), h.2.2.2.1.but hb (by simp; omega), h.2.2.2.2.1.later hb (fun i hi => by simp at hi; subst hi; exact .inr (by omega)), h.2.2.2.2.2.1, h.2.2.2.2.2.2⟩

set_option maxRecDepth 100000 in
set_option maxHeartbeats 4000000 in
theorem learn_any (M : Nat) (wb : World) (hM : wb.heap.size ≤ M) (t : Re) : ∀ (w : World) (cs : List Value) (g : Int → Option Facts), t.In wb cs → Below wb.heap.size wb w → GMap w M g → GWf g → t.typed = true → t.reps = true → t.size ≤ 1048576 →
    Calls Try.prog 62 #[.agg cs.toArray, .map (some M)] w fun e w' => e = .returned (encF (t.learn g).1) ∧ But [M] w w' ∧ GMap w' M (t.learn g).2 := by
  induction t using Re.ind with
  | h p xs ih =>
    intro w cs g hIn hbw hmap hgw hty hrp hsz
    rw [Re.In] at hIn
    obtain ⟨ad, cap, rfl, hwf, hlc, hcm, hnil, hall⟩ := hIn
    rw [Re.size_mk] at hsz
    have hlen := Re.sizes_len xs
    have HIH := hid ih
    have HAL := hid hall
    have HBW := hid hbw
    have HGW := hid hgw
    have HTY := hid hty
    rw [Re.reps] at hrp
    simp only [Bool.and_eq_true, decide_eq_true_eq] at hrp
    have HRP := hid hrp
    clear hrp
    have HMAP := hid hmap
    have hMw := hmap.lt
    clear ih hall hwf hbw hgw hty hmap
    simp only [Pay.cells]
    go_enter Try.func62, Try.ntmps62
    go_upto_block 0 with fail
    go_cut [5] (fun v wx => ∃ a n c, v = .slice a n c ∧ LAt w M p (.slice ad xs.length cap) (.slice a n c) (Re.learns xs g).1 (Re.learns xs g).2 wx)
    case first =>
      go_wp2_with fail
      go_loopw [5, 15] (fun v i wr => ∃ (k : Nat) (a : Option Addr) (n c : Nat), k ≤ xs.length ∧ i = .int .i64 k ∧ v = .slice a n c ∧ Hid (LAt w M p (.slice ad xs.length cap) (.slice a n c) (Re.learns (xs.take k) g).1 (Re.learns (xs.take k) g).2 wr)) (fun _ i _ => xs.length - (intOf i).toNat)
      case atStart =>
        refine ⟨0, none, 0, 0, by omega, rfl, rfl, World.ownsRow_nil _ _ _ _, ((HMAP.out.alloc _).alloc _), (Row.new (cs := [.int .i64 p.op, .int .u64 p.set.a, .int .u64 p.set.b, .int .u64 p.set.c, .int .u64 p.set.d, .int .i64 p.lo, .int .i64 p.hi, .int .i64 p.gr, .slice ad xs.length cap]) rfl).alloc _, Row.new (cs := [.bool false, .int .i64 0, .int .i64 0, .int .u64 0, .int .u64 0, .int .u64 0, .int .u64 0]) (by simp), ((But.refl _ w).alloc _).alloc _, HGW.out, fun f hf => absurd hf (by simp [Re.learns])⟩
      case round =>
        obtain ⟨k, a, n, c, hk, rfl, rfl, HX⟩ := hrel
        have q1 := HX.out.2.2.1.c9
        have hB := HX.out.2.2.1.lt
        have HBL := hid (HBW.out.trans (HX.out.2.2.2.2.1.below HBW.out.size (fun j hj => by simp at hj; omega)))
        by_cases hlt : k < xs.length
        · obtain ⟨b, o, p', ad', n', cap', rfl, HC, HI0, hbb⟩ := HAL.out.kid HBL.out k hlt
          go_wp2_with (first | (with_reducible (refine wpList_load_agg rfl 28 _ rfl b (o + (k * 9)) rfl _ _ HC.out Try.underlying28 rfl (size_re9 _ _ _ _ _ _ _ _ _) ?_)))
          have hsg := Re.size_get (xs := xs) (i := k) (a := xs[k]) (by simp [hlt])
          have hgk := Re.learn_wf xs[k] wb _ _ HI0.out HX.out.2.2.2.2.2.1
          have HGK := hid hgk
          have HTK := hid (Re.learns_take xs k xs[k] g (by simp [hlt]))
          refine (HIH.out xs[k] (by simp) _ _ _ HI0.out (HBL.out.alloc (by have := HBL.out.size; exact this) _) (HX.out.2.1.alloc _) HX.out.2.2.2.2.2.1 (Re.typed_kid HTY.out k hlt) (Re.repss_get xs HRP.out.2 k hlt) (by omega)).mono ?_
          rintro e w2 ⟨rfl, hb2, hm2⟩
          have hb3 := ((But.refl [M] wr).alloc _).trans hb2
          have HB3 := hid hb3
          have HM2 := hid hm2
          have HO2 := hid (HX.out.1.but hb3 (by omega))
          have hll := Re.learns_len (xs.take k) g
          rw [List.length_take, Nat.min_eq_left (by omega)] at hll
          have HLL := hid hll
          obtain ⟨i0, hi, hz0, hz1, hz2⟩ := info_parts info_facts
          have hw2 : w.heap.size + 2 ≤ w2.heap.size := by have h1 := HX.out.2.2.2.1.lt; have h2 := hb3.size; omega
          generalize hF : (xs[k].learn (Re.learns (xs.take k) g).2).1 = F at *
          have HF := hid hF
          clear hb2 hm2 hb3 hF hgk q1 hll
          unfold encF Facts.cells
          go_wp2_with (at_builtin; refine wpList_append_row rfl _ _ 93 rfl (w.heap.size + 2) 66 i0 (.agg #[.bool false, .int .i64 0, .int .i64 0, .int .u64 0, .int .u64 0, .int .u64 0, .int .u64 0]) 7 56 Try.underlying93 hi hz0 hz1 hz2 rfl (by decide) _ _ _ rfl (HO2.out.alloc _) ⟨w2.heap.size, 0, none⟩ 1 1 F.cells rfl rfl ?c1 ?c2 ?c3 ?c4 ?c5 (by decide) ?_)
          case c1 =>
            intro j u hj
            rw [Addr.add_lit, Nat.zero_add]
            exact (Row.new (w := w2) (cs := F.cells) (T := 66) rfl).cell j ▸ hj
          case c2 => intro u hu; simp [Facts.cells] at hu; rcases hu with rfl | rfl | rfl | rfl | rfl | rfl | rfl <;> rfl
          case c3 => have := HLL.out; unfold maxLen; omega
          case c4 => have := HLL.out; omega
          case c5 => simp; omega
          · intro a2 c2 w3 hown' hgrow hnw
            have hv : ∀ g, (Value.slice a n c).ownBlock = some g → w.heap.size + 2 ≤ g := fun g hg => (HO2.out.lt g hg).1
            have hbl : ∀ j, j < w.heap.size + 2 → w3.heap[j]? = w2.heap[j]? := fun j hj => (grown_block hgrow hv j hj (by simp; omega)).trans (Below.heap_alloc _ _ _ (by omega))
            have hown2 : OwnFacts w3 (w.heap.size + 2) (.slice a2 ((Re.learns (xs.take k) g).1.length + 1) c2) ((Re.learns (xs.take k) g).1 ++ [F]) := by
              unfold OwnFacts
              simpa [List.flatMap_append] using hown'
            have hL : LAt w M p (.slice (some ⟨b, o, none⟩) xs.length cap) (.slice a2 ((Re.learns (xs.take k) g).1.length + 1) c2) (Re.learns (xs.take (k + 1)) g).1 (Re.learns (xs.take (k + 1)) g).2 w3 := by
              rw [HTK.out]
              refine ⟨hown2, IMap.of_block HM2.out (hbl M (by omega)), (hbl _ (by omega)).trans (HX.out.2.2.1.but HB3.out (by simp; omega)), (hbl _ (by omega)).trans (HX.out.2.2.2.1.but HB3.out (by simp; omega)), ?_, HGK.out.2, ?_⟩
              · refine ⟨hgrow.os.trans (HB3.out.os.trans HX.out.2.2.2.2.1.os), hgrow.tape.trans (HB3.out.tape.trans HX.out.2.2.2.2.1.tape), hgrow.output.trans (HB3.out.output.trans HX.out.2.2.2.2.1.output), by have := hgrow.size; simp at this; omega, fun j hj hn => (hbl j (by omega)).trans ((HB3.out.block j (by have := HX.out.2.2.2.2.1.size; omega) hn).trans (HX.out.2.2.2.2.1.block j hj hn))⟩
              · intro f hf
                rcases List.mem_append.1 hf with hf | hf
                · exact HX.out.2.2.2.2.2.2 f hf
                · rw [List.mem_singleton.1 hf]; exact HGK.out.1
            have HL := hid hL
            clear hL hown2 hbl hv hown' hgrow hnw
            go_wp2_with fail
            go_roundw
            case rel => exact ⟨k + 1, a2, _, c2, by omega, by go_num, rfl, HL.out⟩
            case measure => simp [intOf]; omega
        · obtain rfl : k = xs.length := by omega
          go_wp2_with fail
          go_meet
          have h := HX.out
          rw [List.take_length] at h
          exact ⟨a, n, c, rfl, h⟩
    case rest =>
      obtain ⟨a, n, c, rfl, hX⟩ := hcut
      have HX := hid hX
      have q1 := hX.2.2.1.c9
      have q2 := hX.2.2.2.1.c7f
      have z1 := hX.2.2.1.lt
      have z2 := hX.2.2.2.1.lt
      have HBX := hid hX.2.2.2.2.1
      have HLE := hid (show (Re.mk p xs).learn g = p.learn (Re.learns xs g).1 (Re.learns xs g).2 by rw [Re.learn])
      have hMB : M < w.heap.size + 1 := by omega
      have HGM : Hid (GMap wc M (Re.learns xs g).2) := HX.out.2.1
      clear hX
      by_cases o2 : p.op = 2
      · have d2 : (p.op == 2) = true := by simpa using o2
        have hl : p.learn (Re.learns xs g).1 (Re.learns xs g).2 = (⟨false, 1, 1, p.set⟩, (Re.learns xs g).2) := by unfold Pay.learn; rw [if_pos o2]
        have HL := hid hl
        clear o2 hl
        go_wp2_with fail
        refine ret_row 4 66 rfl (w.heap.size + 1) rfl [.bool false, .int .i64 1, .int .i64 1, .int .u64 p.set.a, .int .u64 p.set.b, .int .u64 p.set.c, .int .u64 p.set.d] (CellsAt.of_row (T := 66) (HX.out.2.2.2.1.set7 _ _ _ _ _ _ _)) _ Try.underlying66 rfl (size_facts _ _ _ _ _ _ _) rfl ?_
        rw [HLE.out, HL.out]
        exact ⟨rfl, But.set7 HBX.out (by omega) _ _ _ _ _ _ _, IMap.other7 HX.out.2.1 (by omega) _ _ _ _ _ _ _⟩
      by_cases o9 : p.op = 9
      · skip
        have d2 : (p.op == 2) = false := by simpa using o2
        have d3 : (p.op == 3) = false := by simp [o9]
        have d4 : (p.op == 4) = false := by simp [o9]
        have d5 : (p.op == 5) = false := by simp [o9]
        have d6 : (p.op == 6) = false := by simp [o9]
        have d9 : (p.op == 9) = true := by simpa using o9
        have hl : p.learn (Re.learns xs g).1 (Re.learns xs g).2 = (((Re.learns xs g).2 p.gr).getD Facts.zero, (Re.learns xs g).2) := by unfold Pay.learn; rw [if_neg o2, if_neg (by omega), if_neg (by omega), if_neg (by omega), if_neg (by omega), if_pos o9]
        have HL := hid hl
        clear o2 o9 hl
        have hgl := HX.out.2.1.lt
        generalize hF : ((Re.learns xs g).2 p.gr).getD Facts.zero = F at HL
        have HF := hid hF
        clear hF
        go_wp2_with (with_reducible (refine wpList_lookup_gmap rfl _ _ rfl M _ HGM.out rfl p.gr rfl F HF.out ?_))
        refine ret_row 4 66 rfl (w.heap.size + 1) rfl F.cells (CellsAt.of_row (T := 66) (HX.out.2.2.2.1.set7 _ _ _ _ _ _ _)) _ Try.underlying66 rfl (size_facts _ _ _ _ _ _ _) rfl ?_
        rw [HLE.out, HL.out]
        exact ⟨rfl, But.set7 HBX.out (by omega) _ _ _ _ _ _ _, IMap.other7 HX.out.2.1 (by omega) _ _ _ _ _ _ _⟩
      by_cases o6 : p.op = 6
      · skip
        have d2 : (p.op == 2) = false := by simpa using o2
        have d3 : (p.op == 3) = false := by simp [o6]
        have d4 : (p.op == 4) = false := by simp [o6]
        have d5 : (p.op == 5) = false := by simp [o6]
        have d6 : (p.op == 6) = true := by simpa using o6
        obtain ⟨F, hF⟩ := Re.learns_one HTY.out (.inr o6) g
        have hl : p.learn (Re.learns xs g).1 (Re.learns xs g).2 = (F, fun k => if k = p.gr then some F else (Re.learns xs g).2 k) := by unfold Pay.learn; rw [if_neg o2, if_neg (by omega), if_neg (by omega), if_neg (by omega), if_pos o6, hF]; rfl
        have HL := hid hl
        have HO1 : OwnFacts wc (w.heap.size + 2) (.slice a n c) (Re.learns xs g).1 := HX.out.1
        obtain ⟨gb, cc, hsl, hgb1, hgb2, hce⟩ := HO1.elem 0 F (by rw [hF]; rfl)
        rw [hF] at hsl
        injection hsl with e1 e2 e3
        subst e1 e2 e3
        have q3 := hce.c7
        rw [Nat.zero_mul] at q3
        have HCE := hid hce
        have HC : Hid (∀ x, Below wc.heap.size wc.drew x → (x.cell? ⟨w.heap.size, 7, none⟩ = some (.int .i64 p.gr)) ∧ (x.cell? ⟨gb, 0, none⟩ = some (.bool F.null) ∧ x.cell? ⟨gb, 1, none⟩ = some (.int .i64 F.least) ∧ x.cell? ⟨gb, 2, none⟩ = some (.int .i64 F.most) ∧ x.cell? ⟨gb, 3, none⟩ = some (.int .u64 F.first.a) ∧ x.cell? ⟨gb, 4, none⟩ = some (.int .u64 F.first.b) ∧ x.cell? ⟨gb, 5, none⟩ = some (.int .u64 F.first.c) ∧ x.cell? ⟨gb, 6, none⟩ = some (.int .u64 F.first.d))) := fun x hx =>
          ⟨(HX.out.2.2.1.drew.below hx z1).cell 7, by have := (CellsAt.below (w := wc.drew) HCE.out hx).c7; rw [Nat.zero_mul] at this; exact this⟩
        clear o2 o6 hl hce HO1 hF
        go_wp2_with fail
        refine wp_region_inv 6 (Below wc.heap.size) (by kernel_rfl) (by kernel_rfl) (Below.refl _) (fun _ _ _ => Below.trans) ?_
        simp only [fill, dstOf, Act.put, List.take_succ_cons, List.take_zero, List.getElem?_toArray, List.getElem?_cons_zero, List.getElem?_cons_succ, Option.bind_some, List.setIfInBounds_toArray, List.set_cons_zero, List.set_cons_succ]
        refine Plan.det 1 rfl (Below.refl _) ?_
        apply Exists.intro
        refine ⟨fun vs x hR hF K hK => ?_, ?_⟩
        · clear hF
          go_simp
          exact hK _ _ (Below.refl _ _) rfl
        refine Plan.det 2 rfl (Below.refl _) ?_
        apply Exists.intro
        refine ⟨fun vs x hR hF K hK => ?_, ?_⟩
        · clear hF
          go_simp
          exact hK _ _ (Below.refl _ _) rfl
        refine Plan.det 3 rfl (Below.refl _) ?_
        apply Exists.intro
        refine ⟨fun vs x hR hF K hK => ?_, ?_⟩
        · have f1 := hF 0 _ _ rfl rfl; have hc := HC.out x hR; clear hF
          go_simp
          exact hK _ _ (Below.refl _ _) rfl
        refine Plan.det 4 rfl (Below.refl _) ?_
        apply Exists.intro
        refine ⟨fun vs x hR hF K hK => ?_, ?_⟩
        · clear hF
          go_simp
          exact hK _ _ (Below.refl _ _) rfl
        refine Plan.det 5 rfl (Below.refl _) ?_
        apply Exists.intro
        refine ⟨fun vs x hR hF K hK => ?_, ?_⟩
        · have f3 := hF 0 _ _ rfl rfl; clear hF
          go_simp
          exact hK _ _ (Below.refl _ _) rfl
        refine Plan.det 6 rfl (Below.refl _) ?_
        apply Exists.intro
        refine ⟨fun vs x hR hF K hK => ?_, ?_⟩
        · have f4 := hF 0 _ _ rfl rfl; have hc := HC.out x hR; clear hF
          go_simp
          exact hK _ _ (Below.refl _ _) rfl
        refine Plan.nil (fun vs x hR hF => ?_)
        have f0 := hF 5 _ _ rfl; have f1 := hF 4 _ _ rfl; have f2 := hF 3 _ _ rfl; have f3 := hF 2 _ _ rfl; have f4 := hF 1 _ _ rfl; have f5 := hF 0 _ _ rfl
        clear hF
        simp only [f0, f1, f2, f3, f4, f5]
        clear f0 f1 f2 f3 f4 f5
        simp only [List.drop_succ_cons, List.drop_zero]
        have HGX : Hid (GMap x M (Re.learns xs g).2) := IMap.of_block HGM.out ((hR.block M (by omega)).trans rfl)
        have HRX := hid hR
        go_wp2_with (with_reducible (refine wpList_update_gmap rfl _ _ _ rfl M _ HGX.out rfl p.gr rfl F rfl ?_))
        intro w3 hg3 hb3
        have hB4 : But [M] w w3 := HBX.out.later ((But.refl _ wc).drew.trans (But.of_below' HRX.out |>.trans hb3)) (fun i hi => .inl hi)
        have hrow : Row w3 (w.heap.size + 1) [.bool false, .int .i64 0, .int .i64 0, .int .u64 0, .int .u64 0, .int .u64 0, .int .u64 0] 66 := (HX.out.2.2.2.1.drew.below HRX.out z2).but hb3 (by simp; omega)
        have hcl := (CellsAt.below (w := wc.drew) HCE.out HRX.out).but hb3 (by simp; omega)
        have q4 := hrow.c7f
        have q5 := hcl.c7
        rw [Nat.zero_mul] at q5
        have z3 := hrow.lt
        have HG3 := hid hg3
        have HB4 := hid hB4
        have HROW := hid hrow
        clear hR HC q1 q2 q3 hg3 hb3 hB4 hrow hcl
        go_wp2_with fail
        refine ret_row 4 66 rfl (w.heap.size + 1) rfl F.cells (CellsAt.of_row (T := 66) (HROW.out.set7 _ _ _ _ _ _ _)) _ Try.underlying66 rfl (size_facts _ _ _ _ _ _ _) rfl ?_
        rw [HLE.out, HL.out]
        exact ⟨rfl, But.set7 HB4.out (by omega) _ _ _ _ _ _ _, IMap.other7 HG3.out (by omega) _ _ _ _ _ _ _⟩
      by_cases o5 : p.op = 5
      · skip
        have d2 : (p.op == 2) = false := by simpa using o2
        have d3 : (p.op == 3) = false := by simp [o5]
        have d4 : (p.op == 4) = false := by simp [o5]
        have d5 : (p.op == 5) = true := by simpa using o5
        obtain ⟨F, hF⟩ := Re.learns_one HTY.out (.inl o5) g
        have hl : p.learn (Re.learns xs g).1 (Re.learns xs g).2 = (F.rep p.lo p.hi, (Re.learns xs g).2) := by unfold Pay.learn; rw [if_neg o2, if_neg (by omega), if_neg (by omega), if_pos o5, hF]; rfl
        have HL := hid hl
        have hFw : F.wf := HX.out.2.2.2.2.2.2 F (by rw [hF]; simp)
        have HT1 := hid (fun x => times_any F.least p.lo x hFw.least (HRP.out.1 o5).1)
        have HT2 := hid (fun x => times_any F.most p.hi x hFw.most (HRP.out.1 o5).2)
        have HO1 : OwnFacts wc (w.heap.size + 2) (.slice a n c) (Re.learns xs g).1 := HX.out.1
        obtain ⟨gb, cc, hsl, hgb1, hgb2, hce⟩ := HO1.elem 0 F (by rw [hF]; rfl)
        rw [hF] at hsl
        injection hsl with e1 e2 e3
        subst e1 e2 e3
        have q3 := hce.c7
        rw [Nat.zero_mul] at q3
        have HCE := hid hce
        have HC : Hid (∀ x, Grow wc.drew x → (x.cell? ⟨w.heap.size, 5, none⟩ = some (.int .i64 p.lo) ∧ x.cell? ⟨w.heap.size, 6, none⟩ = some (.int .i64 p.hi)) ∧ (x.cell? ⟨gb, 0, none⟩ = some (.bool F.null) ∧ x.cell? ⟨gb, 1, none⟩ = some (.int .i64 F.least) ∧ x.cell? ⟨gb, 2, none⟩ = some (.int .i64 F.most) ∧ x.cell? ⟨gb, 3, none⟩ = some (.int .u64 F.first.a) ∧ x.cell? ⟨gb, 4, none⟩ = some (.int .u64 F.first.b) ∧ x.cell? ⟨gb, 5, none⟩ = some (.int .u64 F.first.c) ∧ x.cell? ⟨gb, 6, none⟩ = some (.int .u64 F.first.d))) := fun x hx =>
          ⟨⟨(HX.out.2.2.1.drew.below hx z1).cell 5, (HX.out.2.2.1.drew.below hx z1).cell 6⟩, by have := (CellsAt.below (w := wc.drew) HCE.out hx).c7; rw [Nat.zero_mul] at this; exact this⟩
        clear o2 o5 hl hce HO1 hF hFw
        rcases (show (p.lo == 0) = true ∨ (p.lo == 0) = false by cases (p.lo == 0) <;> simp) with dlo | dlo
        · have HLO := hid dlo
          go_wp2_with fail
          refine wp_region_inv 29 (Grow) (by kernel_rfl) (by kernel_rfl) (Grow.refl) (fun _ _ _ => Grow.trans) ?_
          simp only [fill, dstOf, Act.put, List.take_succ_cons, List.take_zero, List.getElem?_toArray, List.getElem?_cons_zero, List.getElem?_cons_succ, Option.bind_some, List.setIfInBounds_toArray, List.set_cons_zero, List.set_cons_succ]
          refine Plan.det 1 rfl (Grow.refl) ?_
          apply Exists.intro
          refine ⟨fun vs x hR hF K hK => ?_, ?_⟩
          · clear hF
            go_simp
            exact hK _ _ (Grow.refl _) rfl
          refine Plan.det 2 rfl (Grow.refl) ?_
          apply Exists.intro
          refine ⟨fun vs x hR hF K hK => ?_, ?_⟩
          · have f0 := hF 0 _ _ rfl rfl; have hc := HC.out x hR; clear hF
            go_simp
            exact hK _ _ (Grow.refl _) rfl
          refine Plan.det 3 rfl (Grow.refl) ?_
          apply Exists.intro
          refine ⟨fun vs x hR hF K hK => ?_, ?_⟩
          · have f1 := hF 0 _ _ rfl rfl; clear hF
            go_simp
            exact hK _ _ (Grow.refl _) rfl
          refine Plan.det 4 rfl (Grow.refl) ?_
          apply Exists.intro
          refine ⟨fun vs x hR hF K hK => ?_, ?_⟩
          · have f2 := hF 0 _ _ rfl rfl; clear hF
            go_simp
            exact hK _ _ (Grow.refl _) rfl
          refine Plan.det 5 rfl (Grow.refl) ?_
          apply Exists.intro
          refine ⟨fun vs x hR hF K hK => ?_, ?_⟩
          · have f3 := hF 0 _ _ rfl rfl; clear hF
            go_simp
            exact hK _ _ (Grow.refl _) rfl
          refine Plan.det 6 rfl (Grow.refl) ?_
          apply Exists.intro
          refine ⟨fun vs x hR hF K hK => ?_, ?_⟩
          · have f3 := hF 1 _ _ rfl rfl; have f4 := hF 0 _ _ rfl rfl; clear hF
            go_simp
            exact hK _ _ (Grow.refl _) rfl
          refine Plan.det 7 rfl (Grow.refl) ?_
          apply Exists.intro
          refine ⟨fun vs x hR hF K hK => ?_, ?_⟩
          · have f3 := hF 2 _ _ rfl rfl; have f5 := hF 0 _ _ rfl rfl; clear hF
            go_simp
            exact hK _ _ (Grow.refl _) rfl
          refine Plan.det 8 rfl (Grow.refl) ?_
          apply Exists.intro
          refine ⟨fun vs x hR hF K hK => ?_, ?_⟩
          · have f3 := hF 3 _ _ rfl rfl; have f6 := hF 0 _ _ rfl rfl; have hc := HC.out x hR; clear hF
            go_simp
            exact hK _ _ (Grow.refl _) rfl
          refine Plan.det 9 rfl (Grow.refl) ?_
          apply Exists.intro
          refine ⟨fun vs x hR hF K hK => ?_, ?_⟩
          · have f3 := hF 4 _ _ rfl rfl; have f7 := hF 0 _ _ rfl rfl; clear hF
            go_simp
            exact hK _ _ (Grow.refl _) rfl
          refine Plan.det 10 rfl (Grow.refl) ?_
          apply Exists.intro
          refine ⟨fun vs x hR hF K hK => ?_, ?_⟩
          · clear hF
            go_simp
            exact hK _ _ (Grow.refl _) rfl
          refine Plan.det 11 rfl (Grow.refl) ?_
          apply Exists.intro
          refine ⟨fun vs x hR hF K hK => ?_, ?_⟩
          · have f9 := hF 0 _ _ rfl rfl; clear hF
            go_simp
            exact hK _ _ (Grow.refl _) rfl
          refine Plan.det 12 rfl (Grow.refl) ?_
          apply Exists.intro
          refine ⟨fun vs x hR hF K hK => ?_, ?_⟩
          · have f10 := hF 0 _ _ rfl rfl; clear hF
            go_simp
            exact hK _ _ (Grow.refl _) rfl
          refine Plan.det 13 rfl (Grow.refl) ?_
          apply Exists.intro
          refine ⟨fun vs x hR hF K hK => ?_, ?_⟩
          · have f11 := hF 0 _ _ rfl rfl; have hc := HC.out x hR; clear hF
            go_simp
            exact hK _ _ (Grow.refl _) rfl
          refine Plan.det 14 rfl (Grow.refl) ?_
          apply Exists.intro
          refine ⟨fun vs x hR hF K hK => ?_, ?_⟩
          · clear hF
            go_simp
            exact hK _ _ (Grow.refl _) rfl
          refine Plan.det 15 rfl (Grow.refl) ?_
          apply Exists.intro
          refine ⟨fun vs x hR hF K hK => ?_, ?_⟩
          · have f13 := hF 0 _ _ rfl rfl; have hc := HC.out x hR; clear hF
            go_simp
            exact hK _ _ (Grow.refl _) rfl
          refine Plan.det 16 rfl (Grow.refl) ?_
          apply Exists.intro
          refine ⟨fun vs x hR hF K hK => ?_, ?_⟩
          · have f3 := hF 11 _ _ rfl rfl; have f12 := hF 2 _ _ rfl rfl; have f14 := hF 0 _ _ rfl rfl; clear hF
            go_simp
            refine (HT1.out x).mono ?_
            rintro e x1 ⟨rfl, rfl⟩
            exact ⟨_, rfl, hK _ _ (Grow.refl _) rfl⟩
          refine Plan.det 17 rfl (Grow.refl) ?_
          apply Exists.intro
          refine ⟨fun vs x hR hF K hK => ?_, ?_⟩
          · clear hF
            go_simp
            exact hK _ _ (Grow.refl _) rfl
          refine Plan.det 18 rfl (Grow.refl) ?_
          apply Exists.intro
          refine ⟨fun vs x hR hF K hK => ?_, ?_⟩
          · have f16 := hF 0 _ _ rfl rfl; clear hF
            go_simp
            exact hK _ _ (Grow.refl _) rfl
          refine Plan.det 19 rfl (Grow.refl) ?_
          apply Exists.intro
          refine ⟨fun vs x hR hF K hK => ?_, ?_⟩
          · have f17 := hF 0 _ _ rfl rfl; clear hF
            go_simp
            exact hK _ _ (Grow.refl _) rfl
          refine Plan.det 20 rfl (Grow.refl) ?_
          apply Exists.intro
          refine ⟨fun vs x hR hF K hK => ?_, ?_⟩
          · have f18 := hF 0 _ _ rfl rfl; have hc := HC.out x hR; clear hF
            go_simp
            exact hK _ _ (Grow.refl _) rfl
          refine Plan.det 21 rfl (Grow.refl) ?_
          apply Exists.intro
          refine ⟨fun vs x hR hF K hK => ?_, ?_⟩
          · clear hF
            go_simp
            exact hK _ _ (Grow.refl _) rfl
          refine Plan.det 22 rfl (Grow.refl) ?_
          apply Exists.intro
          refine ⟨fun vs x hR hF K hK => ?_, ?_⟩
          · have f20 := hF 0 _ _ rfl rfl; have hc := HC.out x hR; clear hF
            go_simp
            exact hK _ _ (Grow.refl _) rfl
          refine Plan.det 23 rfl (Grow.refl) ?_
          apply Exists.intro
          refine ⟨fun vs x hR hF K hK => ?_, ?_⟩
          · have f15 := hF 6 _ _ rfl rfl; have f19 := hF 2 _ _ rfl rfl; have f21 := hF 0 _ _ rfl rfl; clear hF
            go_simp
            refine (HT2.out x).mono ?_
            rintro e x1 ⟨rfl, rfl⟩
            exact ⟨_, rfl, hK _ _ (Grow.refl _) rfl⟩
          refine Plan.det 24 rfl (Grow.refl) ?_
          apply Exists.intro
          refine ⟨fun vs x hR hF K hK => ?_, ?_⟩
          · clear hF
            go_simp
            exact hK _ _ (Grow.refl _) rfl
          refine Plan.det 25 rfl (Grow.refl) ?_
          apply Exists.intro
          refine ⟨fun vs x hR hF K hK => ?_, ?_⟩
          · have f23 := hF 0 _ _ rfl rfl; clear hF
            go_simp
            exact hK _ _ (Grow.refl _) rfl
          refine Plan.det 26 rfl (Grow.refl) ?_
          apply Exists.intro
          refine ⟨fun vs x hR hF K hK => ?_, ?_⟩
          · have f24 := hF 0 _ _ rfl rfl; clear hF
            go_simp
            exact hK _ _ (Grow.refl _) rfl
          refine Plan.det 27 rfl (Grow.refl) ?_
          apply Exists.intro
          refine ⟨fun vs x hR hF K hK => ?_, ?_⟩
          · have f25 := hF 0 _ _ rfl rfl; have hc := HC.out x hR; clear hF
            go_simp
            exact hK _ _ (Grow.refl _) rfl
          refine Plan.det 28 rfl (Grow.refl) ?_
          apply Exists.intro
          refine ⟨fun vs x hR hF K hK => ?_, ?_⟩
          · have f8 := hF 18 _ _ rfl rfl; have f15 := hF 11 _ _ rfl rfl; have f22 := hF 4 _ _ rfl rfl; have f26 := hF 0 _ _ rfl rfl; clear hF
            go_simp
            exact hK _ _ (Grow.refl _) rfl
          refine Plan.rel 29 rfl (Grow.refl) (fun v x => ∃ b, v = .pointer (some ⟨b, 0, none⟩) ∧ wc.heap.size ≤ b ∧ Row x b [.bool false, .int .i64 0, .int .i64 0, .int .u64 0, .int .u64 0, .int .u64 0, .int .u64 0] 66) (fun v x y hR ⟨b, h1, h2, h3⟩ => ⟨b, h1, h2, h3.below hR h3.lt⟩) (fun vs x hR hF K hK => ?_) ?_
          · skip
            go_simp
            exact hK _ _ (Grow.alloc _ _) ⟨_, rfl, (by have := Grow.size hR; simp at this; omega), Row.at _ _ _⟩
          refine Plan.nil (fun vs x hR hF => ?_)
          have f0 := hF 28 _ _ rfl; have f1 := hF 27 _ _ rfl; have f2 := hF 26 _ _ rfl; have f3 := hF 25 _ _ rfl; have f4 := hF 24 _ _ rfl; have f5 := hF 23 _ _ rfl; have f6 := hF 22 _ _ rfl; have f7 := hF 21 _ _ rfl; have f8 := hF 20 _ _ rfl; have f9 := hF 19 _ _ rfl; have f10 := hF 18 _ _ rfl; have f11 := hF 17 _ _ rfl; have f12 := hF 16 _ _ rfl; have f13 := hF 15 _ _ rfl; have f14 := hF 14 _ _ rfl; have f15 := hF 13 _ _ rfl; have f16 := hF 12 _ _ rfl; have f17 := hF 11 _ _ rfl; have f18 := hF 10 _ _ rfl; have f19 := hF 9 _ _ rfl; have f20 := hF 8 _ _ rfl; have f21 := hF 7 _ _ rfl; have f22 := hF 6 _ _ rfl; have f23 := hF 5 _ _ rfl; have f24 := hF 4 _ _ rfl; have f25 := hF 3 _ _ rfl; have f26 := hF 2 _ _ rfl; have f27 := hF 1 _ _ rfl; have f28 := hF 0 _ _ rfl
          clear hF
          simp only [f0, f1, f2, f3, f4, f5, f6, f7, f8, f9, f10, f11, f12, f13, f14, f15, f16, f17, f18, f19, f20, f21, f22, f23, f24, f25, f26, f27]
          clear f0 f1 f2 f3 f4 f5 f6 f7 f8 f9 f10 f11 f12 f13 f14 f15 f16 f17 f18 f19 f20 f21 f22 f23 f24 f25 f26 f27
          simp only [List.drop_succ_cons, List.drop_zero]
          obtain ⟨bk, e28, hbk, hrow⟩ := f28
          simp only [e28]
          have q4 := (HC.out x hR).1
          have qb := hrow.c7f
          have hz := hrow.lt
          have HRO := hid hrow
          have hBX : But [M] w x := HBX.out.later ((But.refl _ wc).drew.trans (But.of_below' hR)) (fun i hi => .inl hi)
          have hrs := HX.out.2.2.2.1.drew.below hR z2
          have HGX : Hid (GMap x M (Re.learns xs g).2) := IMap.of_block HGM.out ((hR.block M (by show M < wc.heap.size; omega)).trans rfl)
          have qr := hrs.c7f
          have HBX2 := hid hBX
          have HRS := hid hrs
          have hne : w.heap.size + 1 < bk := by omega
          have hzz : w.heap.size + 1 < x.heap.size := by omega
          have hMbk : M ≠ bk := by omega
          have HMBK := hid hMbk
          clear hR HC q1 q2 q3 HT1 HT2 hrow hBX hrs e28 hbk hMbk
          rcases (show (p.hi == 0) = true ∨ (p.hi == 0) = false by cases (p.hi == 0) <;> simp) with dhi | dhi
          · go_upto_region 24 with fail
            have HHI := hid dhi
            have s1 := HRO.out.set7 (.bool true) (.int .i64 (ltimes F.least p.lo)) (.int .i64 (ltimes F.most p.hi)) (.int .u64 F.first.a) (.int .u64 F.first.b) (.int .u64 F.first.c) (.int .u64 F.first.d)
            have s2 := HRS.out.other7 (Nat.ne_of_lt hne) (.bool true) (.int .i64 (ltimes F.least p.lo)) (.int .i64 (ltimes F.most p.hi)) (.int .u64 F.first.a) (.int .u64 F.first.b) (.int .u64 F.first.c) (.int .u64 F.first.d)
            have s3 := But.set7 HBX2.out (by omega : w.heap.size ≤ bk) (.bool true) (.int .i64 (ltimes F.least p.lo)) (.int .i64 (ltimes F.most p.hi)) (.int .u64 F.first.a) (.int .u64 F.first.b) (.int .u64 F.first.c) (.int .u64 F.first.d)
            have s4 := IMap.other7 HGX.out HMBK.out (.bool true) (.int .i64 (ltimes F.least p.lo)) (.int .i64 (ltimes F.most p.hi)) (.int .u64 F.first.a) (.int .u64 F.first.b) (.int .u64 F.first.c) (.int .u64 F.first.d)
            generalize (((((((x.setCell ⟨bk, 0, none⟩ (.bool true)).setCell ⟨bk, 1, none⟩ (.int .i64 (ltimes F.least p.lo))).setCell ⟨bk, 2, none⟩ (.int .i64 (ltimes F.most p.hi))).setCell ⟨bk, 3, none⟩ (.int .u64 F.first.a)).setCell ⟨bk, 4, none⟩ (.int .u64 F.first.b)).setCell ⟨bk, 5, none⟩ (.int .u64 F.first.c)).setCell ⟨bk, 6, none⟩ (.int .u64 F.first.d)) = y at s1 s2 s3 s4 ⊢
            have p1 := s1.c7f
            have p2 := s2.c7f
            have z3 := s1.lt
            have z4 := s2.lt
            have HS2 := hid s2
            have HS3 := hid s3
            have HS4 := hid s4
            clear s1 s2 s3 s4 qr qb q4
            go_wp2_with fail
            refine ret_row 4 66 rfl (w.heap.size + 1) rfl (F.rep p.lo p.hi).cells (CellsAt.of_row (T := 66) ?_) _ Try.underlying66 rfl (size_facts _ _ _ _ _ _ _) rfl ?_
            · rw [show (F.rep p.lo p.hi).cells = [.bool true, .int .i64 (ltimes F.least p.lo), .int .i64 (ltimes F.most p.hi), .int .u64 0, .int .u64 0, .int .u64 0, .int .u64 0] by have h1 := HLO.out; have h2 := HHI.out; simp at h1 h2; simp [Facts.rep, Facts.cells, h1, h2, Cs.none]]
              exact (HS2.out.other4' (by omega) _ _ _ _).set7 _ _ _ _ _ _ _
            · rw [HLE.out, HL.out]
              have hbw : w.heap.size ≤ bk := by omega
              exact ⟨rfl, But.set7 ((((HS3.out.setCell (.inr hbw) _).setCell (.inr hbw) _).setCell (.inr hbw) _).setCell (.inr hbw) _) (by omega) _ _ _ _ _ _ _, IMap.other7 ((((HS4.out.other HMBK.out _ _).other HMBK.out _ _).other HMBK.out _ _).other HMBK.out _ _) (by omega) _ _ _ _ _ _ _⟩
          · have HHI := hid dhi
            go_wp2_with fail
            refine ret_row 4 66 rfl (w.heap.size + 1) rfl (F.rep p.lo p.hi).cells (CellsAt.of_row (T := 66) ?_) _ Try.underlying66 rfl (size_facts _ _ _ _ _ _ _) rfl ?_
            · rw [show (F.rep p.lo p.hi).cells = [.bool true, .int .i64 (ltimes F.least p.lo), .int .i64 (ltimes F.most p.hi), .int .u64 F.first.a, .int .u64 F.first.b, .int .u64 F.first.c, .int .u64 F.first.d] by have h1 := HLO.out; have h2 := HHI.out; simp at h1 h2; simp [Facts.rep, Facts.cells, h1, h2]]
              exact (HRS.out.other7 (by omega) _ _ _ _ _ _ _).set7 _ _ _ _ _ _ _
            · rw [HLE.out, HL.out]
              exact ⟨rfl, But.set7 (But.set7 HBX2.out (by omega) _ _ _ _ _ _ _) (by omega) _ _ _ _ _ _ _, IMap.other7 (IMap.other7 HGX.out HMBK.out _ _ _ _ _ _ _) (by omega) _ _ _ _ _ _ _⟩
        · have HLO := hid dlo
          go_wp2_with fail
          refine wp_region_inv 29 (Grow) (by kernel_rfl) (by kernel_rfl) (Grow.refl) (fun _ _ _ => Grow.trans) ?_
          simp only [fill, dstOf, Act.put, List.take_succ_cons, List.take_zero, List.getElem?_toArray, List.getElem?_cons_zero, List.getElem?_cons_succ, Option.bind_some, List.setIfInBounds_toArray, List.set_cons_zero, List.set_cons_succ]
          refine Plan.det 1 rfl (Grow.refl) ?_
          apply Exists.intro
          refine ⟨fun vs x hR hF K hK => ?_, ?_⟩
          · clear hF
            go_simp
            exact hK _ _ (Grow.refl _) rfl
          refine Plan.det 2 rfl (Grow.refl) ?_
          apply Exists.intro
          refine ⟨fun vs x hR hF K hK => ?_, ?_⟩
          · have f0 := hF 0 _ _ rfl rfl; have hc := HC.out x hR; clear hF
            go_simp
            exact hK _ _ (Grow.refl _) rfl
          refine Plan.det 3 rfl (Grow.refl) ?_
          apply Exists.intro
          refine ⟨fun vs x hR hF K hK => ?_, ?_⟩
          · have f1 := hF 0 _ _ rfl rfl; clear hF
            go_simp
            exact hK _ _ (Grow.refl _) rfl
          refine Plan.det 4 rfl (Grow.refl) ?_
          apply Exists.intro
          refine ⟨fun vs x hR hF K hK => ?_, ?_⟩
          · have f2 := hF 0 _ _ rfl rfl; clear hF
            go_simp
            exact hK _ _ (Grow.refl _) rfl
          refine Plan.det 5 rfl (Grow.refl) ?_
          apply Exists.intro
          refine ⟨fun vs x hR hF K hK => ?_, ?_⟩
          · have f3 := hF 0 _ _ rfl rfl; clear hF
            go_simp
            exact hK _ _ (Grow.refl _) rfl
          refine Plan.det 6 rfl (Grow.refl) ?_
          apply Exists.intro
          refine ⟨fun vs x hR hF K hK => ?_, ?_⟩
          · have f3 := hF 1 _ _ rfl rfl; have f4 := hF 0 _ _ rfl rfl; clear hF
            go_simp
            exact hK _ _ (Grow.refl _) rfl
          refine Plan.det 7 rfl (Grow.refl) ?_
          apply Exists.intro
          refine ⟨fun vs x hR hF K hK => ?_, ?_⟩
          · have f3 := hF 2 _ _ rfl rfl; have f5 := hF 0 _ _ rfl rfl; clear hF
            go_simp
            exact hK _ _ (Grow.refl _) rfl
          refine Plan.det 8 rfl (Grow.refl) ?_
          apply Exists.intro
          refine ⟨fun vs x hR hF K hK => ?_, ?_⟩
          · have f3 := hF 3 _ _ rfl rfl; have f6 := hF 0 _ _ rfl rfl; have hc := HC.out x hR; clear hF
            go_simp
            exact hK _ _ (Grow.refl _) rfl
          refine Plan.det 9 rfl (Grow.refl) ?_
          apply Exists.intro
          refine ⟨fun vs x hR hF K hK => ?_, ?_⟩
          · have f3 := hF 4 _ _ rfl rfl; have f7 := hF 0 _ _ rfl rfl; clear hF
            go_simp
            exact hK _ _ (Grow.refl _) rfl
          refine Plan.det 10 rfl (Grow.refl) ?_
          apply Exists.intro
          refine ⟨fun vs x hR hF K hK => ?_, ?_⟩
          · clear hF
            go_simp
            exact hK _ _ (Grow.refl _) rfl
          refine Plan.det 11 rfl (Grow.refl) ?_
          apply Exists.intro
          refine ⟨fun vs x hR hF K hK => ?_, ?_⟩
          · have f9 := hF 0 _ _ rfl rfl; clear hF
            go_simp
            exact hK _ _ (Grow.refl _) rfl
          refine Plan.det 12 rfl (Grow.refl) ?_
          apply Exists.intro
          refine ⟨fun vs x hR hF K hK => ?_, ?_⟩
          · have f10 := hF 0 _ _ rfl rfl; clear hF
            go_simp
            exact hK _ _ (Grow.refl _) rfl
          refine Plan.det 13 rfl (Grow.refl) ?_
          apply Exists.intro
          refine ⟨fun vs x hR hF K hK => ?_, ?_⟩
          · have f11 := hF 0 _ _ rfl rfl; have hc := HC.out x hR; clear hF
            go_simp
            exact hK _ _ (Grow.refl _) rfl
          refine Plan.det 14 rfl (Grow.refl) ?_
          apply Exists.intro
          refine ⟨fun vs x hR hF K hK => ?_, ?_⟩
          · clear hF
            go_simp
            exact hK _ _ (Grow.refl _) rfl
          refine Plan.det 15 rfl (Grow.refl) ?_
          apply Exists.intro
          refine ⟨fun vs x hR hF K hK => ?_, ?_⟩
          · have f13 := hF 0 _ _ rfl rfl; have hc := HC.out x hR; clear hF
            go_simp
            exact hK _ _ (Grow.refl _) rfl
          refine Plan.det 16 rfl (Grow.refl) ?_
          apply Exists.intro
          refine ⟨fun vs x hR hF K hK => ?_, ?_⟩
          · have f3 := hF 11 _ _ rfl rfl; have f12 := hF 2 _ _ rfl rfl; have f14 := hF 0 _ _ rfl rfl; clear hF
            go_simp
            refine (HT1.out x).mono ?_
            rintro e x1 ⟨rfl, rfl⟩
            exact ⟨_, rfl, hK _ _ (Grow.refl _) rfl⟩
          refine Plan.det 17 rfl (Grow.refl) ?_
          apply Exists.intro
          refine ⟨fun vs x hR hF K hK => ?_, ?_⟩
          · clear hF
            go_simp
            exact hK _ _ (Grow.refl _) rfl
          refine Plan.det 18 rfl (Grow.refl) ?_
          apply Exists.intro
          refine ⟨fun vs x hR hF K hK => ?_, ?_⟩
          · have f16 := hF 0 _ _ rfl rfl; clear hF
            go_simp
            exact hK _ _ (Grow.refl _) rfl
          refine Plan.det 19 rfl (Grow.refl) ?_
          apply Exists.intro
          refine ⟨fun vs x hR hF K hK => ?_, ?_⟩
          · have f17 := hF 0 _ _ rfl rfl; clear hF
            go_simp
            exact hK _ _ (Grow.refl _) rfl
          refine Plan.det 20 rfl (Grow.refl) ?_
          apply Exists.intro
          refine ⟨fun vs x hR hF K hK => ?_, ?_⟩
          · have f18 := hF 0 _ _ rfl rfl; have hc := HC.out x hR; clear hF
            go_simp
            exact hK _ _ (Grow.refl _) rfl
          refine Plan.det 21 rfl (Grow.refl) ?_
          apply Exists.intro
          refine ⟨fun vs x hR hF K hK => ?_, ?_⟩
          · clear hF
            go_simp
            exact hK _ _ (Grow.refl _) rfl
          refine Plan.det 22 rfl (Grow.refl) ?_
          apply Exists.intro
          refine ⟨fun vs x hR hF K hK => ?_, ?_⟩
          · have f20 := hF 0 _ _ rfl rfl; have hc := HC.out x hR; clear hF
            go_simp
            exact hK _ _ (Grow.refl _) rfl
          refine Plan.det 23 rfl (Grow.refl) ?_
          apply Exists.intro
          refine ⟨fun vs x hR hF K hK => ?_, ?_⟩
          · have f15 := hF 6 _ _ rfl rfl; have f19 := hF 2 _ _ rfl rfl; have f21 := hF 0 _ _ rfl rfl; clear hF
            go_simp
            refine (HT2.out x).mono ?_
            rintro e x1 ⟨rfl, rfl⟩
            exact ⟨_, rfl, hK _ _ (Grow.refl _) rfl⟩
          refine Plan.det 24 rfl (Grow.refl) ?_
          apply Exists.intro
          refine ⟨fun vs x hR hF K hK => ?_, ?_⟩
          · clear hF
            go_simp
            exact hK _ _ (Grow.refl _) rfl
          refine Plan.det 25 rfl (Grow.refl) ?_
          apply Exists.intro
          refine ⟨fun vs x hR hF K hK => ?_, ?_⟩
          · have f23 := hF 0 _ _ rfl rfl; clear hF
            go_simp
            exact hK _ _ (Grow.refl _) rfl
          refine Plan.det 26 rfl (Grow.refl) ?_
          apply Exists.intro
          refine ⟨fun vs x hR hF K hK => ?_, ?_⟩
          · have f24 := hF 0 _ _ rfl rfl; clear hF
            go_simp
            exact hK _ _ (Grow.refl _) rfl
          refine Plan.det 27 rfl (Grow.refl) ?_
          apply Exists.intro
          refine ⟨fun vs x hR hF K hK => ?_, ?_⟩
          · have f25 := hF 0 _ _ rfl rfl; have hc := HC.out x hR; clear hF
            go_simp
            exact hK _ _ (Grow.refl _) rfl
          refine Plan.det 28 rfl (Grow.refl) ?_
          apply Exists.intro
          refine ⟨fun vs x hR hF K hK => ?_, ?_⟩
          · have f8 := hF 18 _ _ rfl rfl; have f15 := hF 11 _ _ rfl rfl; have f22 := hF 4 _ _ rfl rfl; have f26 := hF 0 _ _ rfl rfl; clear hF
            go_simp
            exact hK _ _ (Grow.refl _) rfl
          refine Plan.rel 29 rfl (Grow.refl) (fun v x => ∃ b, v = .pointer (some ⟨b, 0, none⟩) ∧ wc.heap.size ≤ b ∧ Row x b [.bool false, .int .i64 0, .int .i64 0, .int .u64 0, .int .u64 0, .int .u64 0, .int .u64 0] 66) (fun v x y hR ⟨b, h1, h2, h3⟩ => ⟨b, h1, h2, h3.below hR h3.lt⟩) (fun vs x hR hF K hK => ?_) ?_
          · skip
            go_simp
            exact hK _ _ (Grow.alloc _ _) ⟨_, rfl, (by have := Grow.size hR; simp at this; omega), Row.at _ _ _⟩
          refine Plan.nil (fun vs x hR hF => ?_)
          have f0 := hF 28 _ _ rfl; have f1 := hF 27 _ _ rfl; have f2 := hF 26 _ _ rfl; have f3 := hF 25 _ _ rfl; have f4 := hF 24 _ _ rfl; have f5 := hF 23 _ _ rfl; have f6 := hF 22 _ _ rfl; have f7 := hF 21 _ _ rfl; have f8 := hF 20 _ _ rfl; have f9 := hF 19 _ _ rfl; have f10 := hF 18 _ _ rfl; have f11 := hF 17 _ _ rfl; have f12 := hF 16 _ _ rfl; have f13 := hF 15 _ _ rfl; have f14 := hF 14 _ _ rfl; have f15 := hF 13 _ _ rfl; have f16 := hF 12 _ _ rfl; have f17 := hF 11 _ _ rfl; have f18 := hF 10 _ _ rfl; have f19 := hF 9 _ _ rfl; have f20 := hF 8 _ _ rfl; have f21 := hF 7 _ _ rfl; have f22 := hF 6 _ _ rfl; have f23 := hF 5 _ _ rfl; have f24 := hF 4 _ _ rfl; have f25 := hF 3 _ _ rfl; have f26 := hF 2 _ _ rfl; have f27 := hF 1 _ _ rfl; have f28 := hF 0 _ _ rfl
          clear hF
          simp only [f0, f1, f2, f3, f4, f5, f6, f7, f8, f9, f10, f11, f12, f13, f14, f15, f16, f17, f18, f19, f20, f21, f22, f23, f24, f25, f26, f27]
          clear f0 f1 f2 f3 f4 f5 f6 f7 f8 f9 f10 f11 f12 f13 f14 f15 f16 f17 f18 f19 f20 f21 f22 f23 f24 f25 f26 f27
          simp only [List.drop_succ_cons, List.drop_zero]
          obtain ⟨bk, e28, hbk, hrow⟩ := f28
          simp only [e28]
          have q4 := (HC.out x hR).1
          have qb := hrow.c7f
          have hz := hrow.lt
          have HRO := hid hrow
          have hBX : But [M] w x := HBX.out.later ((But.refl _ wc).drew.trans (But.of_below' hR)) (fun i hi => .inl hi)
          have hrs := HX.out.2.2.2.1.drew.below hR z2
          have HGX : Hid (GMap x M (Re.learns xs g).2) := IMap.of_block HGM.out ((hR.block M (by show M < wc.heap.size; omega)).trans rfl)
          have qr := hrs.c7f
          have HBX2 := hid hBX
          have HRS := hid hrs
          have hne : w.heap.size + 1 < bk := by omega
          have hzz : w.heap.size + 1 < x.heap.size := by omega
          have hMbk : M ≠ bk := by omega
          have HMBK := hid hMbk
          clear hR HC q1 q2 q3 HT1 HT2 hrow hBX hrs e28 hbk hMbk
          rcases (show (p.hi == 0) = true ∨ (p.hi == 0) = false by cases (p.hi == 0) <;> simp) with dhi | dhi
          · go_upto_region 24 with fail
            have HHI := hid dhi
            have s1 := HRO.out.set7 (.bool F.null) (.int .i64 (ltimes F.least p.lo)) (.int .i64 (ltimes F.most p.hi)) (.int .u64 F.first.a) (.int .u64 F.first.b) (.int .u64 F.first.c) (.int .u64 F.first.d)
            have s2 := HRS.out.other7 (Nat.ne_of_lt hne) (.bool F.null) (.int .i64 (ltimes F.least p.lo)) (.int .i64 (ltimes F.most p.hi)) (.int .u64 F.first.a) (.int .u64 F.first.b) (.int .u64 F.first.c) (.int .u64 F.first.d)
            have s3 := But.set7 HBX2.out (by omega : w.heap.size ≤ bk) (.bool F.null) (.int .i64 (ltimes F.least p.lo)) (.int .i64 (ltimes F.most p.hi)) (.int .u64 F.first.a) (.int .u64 F.first.b) (.int .u64 F.first.c) (.int .u64 F.first.d)
            have s4 := IMap.other7 HGX.out HMBK.out (.bool F.null) (.int .i64 (ltimes F.least p.lo)) (.int .i64 (ltimes F.most p.hi)) (.int .u64 F.first.a) (.int .u64 F.first.b) (.int .u64 F.first.c) (.int .u64 F.first.d)
            generalize (((((((x.setCell ⟨bk, 0, none⟩ (.bool F.null)).setCell ⟨bk, 1, none⟩ (.int .i64 (ltimes F.least p.lo))).setCell ⟨bk, 2, none⟩ (.int .i64 (ltimes F.most p.hi))).setCell ⟨bk, 3, none⟩ (.int .u64 F.first.a)).setCell ⟨bk, 4, none⟩ (.int .u64 F.first.b)).setCell ⟨bk, 5, none⟩ (.int .u64 F.first.c)).setCell ⟨bk, 6, none⟩ (.int .u64 F.first.d)) = y at s1 s2 s3 s4 ⊢
            have p1 := s1.c7f
            have p2 := s2.c7f
            have z3 := s1.lt
            have z4 := s2.lt
            have HS2 := hid s2
            have HS3 := hid s3
            have HS4 := hid s4
            clear s1 s2 s3 s4 qr qb q4
            go_wp2_with fail
            refine ret_row 4 66 rfl (w.heap.size + 1) rfl (F.rep p.lo p.hi).cells (CellsAt.of_row (T := 66) ?_) _ Try.underlying66 rfl (size_facts _ _ _ _ _ _ _) rfl ?_
            · rw [show (F.rep p.lo p.hi).cells = [.bool F.null, .int .i64 (ltimes F.least p.lo), .int .i64 (ltimes F.most p.hi), .int .u64 0, .int .u64 0, .int .u64 0, .int .u64 0] by have h1 := HLO.out; have h2 := HHI.out; simp at h1 h2; simp [Facts.rep, Facts.cells, h1, h2, Cs.none]]
              exact (HS2.out.other4' (by omega) _ _ _ _).set7 _ _ _ _ _ _ _
            · rw [HLE.out, HL.out]
              have hbw : w.heap.size ≤ bk := by omega
              exact ⟨rfl, But.set7 ((((HS3.out.setCell (.inr hbw) _).setCell (.inr hbw) _).setCell (.inr hbw) _).setCell (.inr hbw) _) (by omega) _ _ _ _ _ _ _, IMap.other7 ((((HS4.out.other HMBK.out _ _).other HMBK.out _ _).other HMBK.out _ _).other HMBK.out _ _) (by omega) _ _ _ _ _ _ _⟩
          · have HHI := hid dhi
            go_wp2_with fail
            refine ret_row 4 66 rfl (w.heap.size + 1) rfl (F.rep p.lo p.hi).cells (CellsAt.of_row (T := 66) ?_) _ Try.underlying66 rfl (size_facts _ _ _ _ _ _ _) rfl ?_
            · rw [show (F.rep p.lo p.hi).cells = [.bool F.null, .int .i64 (ltimes F.least p.lo), .int .i64 (ltimes F.most p.hi), .int .u64 F.first.a, .int .u64 F.first.b, .int .u64 F.first.c, .int .u64 F.first.d] by have h1 := HLO.out; have h2 := HHI.out; simp at h1 h2; simp [Facts.rep, Facts.cells, h1, h2]]
              exact (HRS.out.other7 (by omega) _ _ _ _ _ _ _).set7 _ _ _ _ _ _ _
            · rw [HLE.out, HL.out]
              exact ⟨rfl, But.set7 (But.set7 HBX2.out (by omega) _ _ _ _ _ _ _) (by omega) _ _ _ _ _ _ _, IMap.other7 (IMap.other7 HGX.out HMBK.out _ _ _ _ _ _ _) (by omega) _ _ _ _ _ _ _⟩
      by_cases o3 : p.op = 3
      · have d2 : (p.op == 2) = false := by simpa using o2
        have d3 : (p.op == 3) = true := by simpa using o3
        obtain ⟨F, l, hF, hl1⟩ := Re.learns_two HTY.out (.inl o3) g
        have HFL := hid hF
        have hl : p.learn (Re.learns xs g).1 (Re.learns xs g).2 = (l.foldl Facts.cat F, (Re.learns xs g).2) := by unfold Pay.learn; rw [if_neg o2, if_pos o3, hF]; rfl
        have HL := hid hl
        have hlen2 := Re.learns_len xs g
        rw [hF] at hlen2
        have HO1 : OwnFacts wc (w.heap.size + 2) (.slice a n c) (Re.learns xs g).1 := HX.out.1
        obtain ⟨gb, cc, hsl, hgb1, hgb2, hce⟩ := HO1.elem 0 F (by rw [hF]; rfl)
        have hcap := HO1.cap
        rw [hF, List.length_cons] at hsl hcap
        injection hsl with e1 e2 e3
        subst e1 e2 e3
        have q3 := hce.c7
        rw [Nat.zero_mul] at q3
        simp only [List.length_cons] at hlen2
        have hl63 : l.length + 1 ≤ 1048576 := by omega
        clear o2 o3 hl hce hlen2 HO1 hF
        go_wp2_with fail
        go_loopw [42] (fun i wr => ∃ (k : Nat) (A : Facts), k ≤ l.length ∧ i = .int .i64 k ∧ A.wf ∧ Hid (A = (l.take k).foldl Facts.cat F) ∧ Hid (LAt w M p (.slice ad xs.length cap) (.slice (some ⟨gb, 0, none⟩) (l.length + 1) c) (Re.learns xs g).1 (Re.learns xs g).2 wr ∧ Row wr wc.heap.size A.cells 66)) (fun i _ => l.length - (intOf i).toNat)
        case atStart => exact ⟨0, F, by omega, rfl, HX.out.2.2.2.2.2.2 F (by rw [HFL.out]; simp), rfl, HX.out.alloc _, Row.new (cs := F.cells) rfl⟩
        case round =>
          obtain ⟨k, A, hk, rfl, hAw, hA, HY⟩ := hrel
          have r1 := HY.out.1.2.2.1.c9
          have r2 := HY.out.2.c7f
          have y1 := HY.out.1.2.2.1.lt
          have y2 := HY.out.2.lt
          have hY1 : OwnFacts wr (w.heap.size + 2) (.slice (some ⟨gb, 0, none⟩) (l.length + 1) c) (Re.learns xs g).1 := HY.out.1.1
          by_cases hlt : k < l.length
          · obtain ⟨gb', c', hsl', _, hg3, hce'⟩ := hY1.elem (k + 1) l[k] (by rw [HFL.out]; simp [hlt])
            injection hsl' with e1 e2 e3
            injection e1 with e1
            injection e1 with e1
            subst e1
            have hGw : l[k].wf := HX.out.2.2.2.2.2.2 _ (by rw [HFL.out]; simp)
            have hTk := hid (show (l.take (k + 1)).foldl Facts.cat F = ((l.take k).foldl Facts.cat F).cat l[k] by rw [List.take_add_one, List.getElem?_eq_getElem hlt, List.foldl_append]; rfl)
            generalize l[k] = G at hTk hGw hce'
            have HCK : Hid (CellsAt wr gb (7 + k * 7) [.bool G.null, .int .i64 G.least, .int .i64 G.most, .int .u64 G.first.a, .int .u64 G.first.b, .int .u64 G.first.c, .int .u64 G.first.d]) := by
              have e : (k + 1) * 7 = 7 + k * 7 := by omega
              rw [e] at hce'
              exact hce'
            clear hce' e2 e3 hY1
            go_wp2_with (first | (with_reducible (refine wpList_load_agg rfl 66 _ rfl gb (7 + k * 7) rfl _ _ HCK.out Try.underlying66 rfl (size_facts _ _ _ _ _ _ _) ?_)))
            refine (cat_any A G _ hAw hGw).mono ?_
            rintro e w2 ⟨rfl, hb2⟩
            have hB1 : But [wc.heap.size] wr w2 := ((But.refl _ wr).alloc _).trans (But.of_below' hb2)
            have hr2 := (HY.out.2.alloc (.cells #[.bool G.null, .int .i64 G.least, .int .i64 G.most, .int .u64 G.first.a, .int .u64 G.first.b, .int .u64 G.first.c, .int .u64 G.first.d] 66)).below hb2 (by simp; omega)
            have hz5 : wc.heap.size < w2.heap.size := hr2.lt
            have HB1 := hid hB1
            have q5 := hr2.c7f
            have HR2 := hid hr2
            clear hb2 hB1 hr2
            unfold Facts.cells
            go_wp2_with fail
            go_roundw
            case rel => exact ⟨k + 1, A.cat G, by omega, by go_num, Facts.cat_wf hAw hGw, by rw [hTk.out, hA.out]; rfl, HY.out.1.but1 (But.set7m HB1.out (by simp) _ _ _ _ _ _ _) (by omega) hMw (by omega), HR2.out.set7 _ _ _ _ _ _ _⟩
            case measure => simp [intOf]; omega
          · obtain rfl : k = l.length := by omega
            have r3 := HY.out.1.2.2.2.1.c7f
            have y3 := HY.out.1.2.2.2.1.lt
            go_wp2_with fail
            refine ret_row 4 66 rfl (w.heap.size + 1) rfl A.cells (CellsAt.of_row (T := 66) (HY.out.1.2.2.2.1.set7 _ _ _ _ _ _ _)) _ Try.underlying66 rfl (size_facts _ _ _ _ _ _ _) rfl ?_
            have hAe := hA.out
            rw [List.take_length] at hAe
            rw [HLE.out, HL.out, ← hAe]
            exact ⟨rfl, But.set7 HY.out.1.2.2.2.2.1 (by omega) _ _ _ _ _ _ _, IMap.other7 HY.out.1.2.1 (by omega) _ _ _ _ _ _ _⟩
      by_cases o4 : p.op = 4
      · have d2 : (p.op == 2) = false := by simpa using o2
        have d3 : (p.op == 3) = false := by simpa using o3
        have d4 : (p.op == 4) = true := by simpa using o4
        obtain ⟨F, l, hF, hl1⟩ := Re.learns_two HTY.out (.inr o4) g
        have HFL := hid hF
        have hl : p.learn (Re.learns xs g).1 (Re.learns xs g).2 = (l.foldl Facts.alt F, (Re.learns xs g).2) := by unfold Pay.learn; rw [if_neg o2, if_neg o3, if_pos o4, hF]; rfl
        have HL := hid hl
        have hlen2 := Re.learns_len xs g
        rw [hF] at hlen2
        have HO1 : OwnFacts wc (w.heap.size + 2) (.slice a n c) (Re.learns xs g).1 := HX.out.1
        obtain ⟨gb, cc, hsl, hgb1, hgb2, hce⟩ := HO1.elem 0 F (by rw [hF]; rfl)
        have hcap := HO1.cap
        rw [hF, List.length_cons] at hsl hcap
        injection hsl with e1 e2 e3
        subst e1 e2 e3
        have q3 := hce.c7
        rw [Nat.zero_mul] at q3
        simp only [List.length_cons] at hlen2
        have hl63 : l.length + 1 ≤ 1048576 := by omega
        clear o2 o4 hl hce hlen2 HO1 hF
        go_wp2_with fail
        go_loopw [42] (fun i wr => ∃ (k : Nat) (A : Facts), k ≤ l.length ∧ i = .int .i64 k ∧ A.wf ∧ Hid (A = (l.take k).foldl Facts.alt F) ∧ Hid (LAt w M p (.slice ad xs.length cap) (.slice (some ⟨gb, 0, none⟩) (l.length + 1) c) (Re.learns xs g).1 (Re.learns xs g).2 wr ∧ Row wr wc.heap.size A.cells 66)) (fun i _ => l.length - (intOf i).toNat)
        case atStart => exact ⟨0, F, by omega, rfl, HX.out.2.2.2.2.2.2 F (by rw [HFL.out]; simp), rfl, HX.out.alloc _, Row.new (cs := F.cells) rfl⟩
        case round =>
          obtain ⟨k, A, hk, rfl, hAw, hA, HY⟩ := hrel
          have r1 := HY.out.1.2.2.1.c9
          have r2 := HY.out.2.c7f
          have y1 := HY.out.1.2.2.1.lt
          have y2 := HY.out.2.lt
          have hY1 : OwnFacts wr (w.heap.size + 2) (.slice (some ⟨gb, 0, none⟩) (l.length + 1) c) (Re.learns xs g).1 := HY.out.1.1
          by_cases hlt : k < l.length
          · obtain ⟨gb', c', hsl', _, hg3, hce'⟩ := hY1.elem (k + 1) l[k] (by rw [HFL.out]; simp [hlt])
            injection hsl' with e1 e2 e3
            injection e1 with e1
            injection e1 with e1
            subst e1
            have hGw : l[k].wf := HX.out.2.2.2.2.2.2 _ (by rw [HFL.out]; simp)
            have hTk := hid (show (l.take (k + 1)).foldl Facts.alt F = ((l.take k).foldl Facts.alt F).alt l[k] by rw [List.take_add_one, List.getElem?_eq_getElem hlt, List.foldl_append]; rfl)
            generalize l[k] = G at hTk hGw hce'
            have HCK : Hid (CellsAt wr gb (7 + k * 7) [.bool G.null, .int .i64 G.least, .int .i64 G.most, .int .u64 G.first.a, .int .u64 G.first.b, .int .u64 G.first.c, .int .u64 G.first.d]) := by
              have e : (k + 1) * 7 = 7 + k * 7 := by omega
              rw [e] at hce'
              exact hce'
            clear hce' e2 e3 hY1
            go_wp2_with (first | (with_reducible (refine wpList_load_agg rfl 66 _ rfl gb (7 + k * 7) rfl _ _ HCK.out Try.underlying66 rfl (size_facts _ _ _ _ _ _ _) ?_)))
            refine (alt_any A G _ hAw hGw).mono ?_
            rintro e w2 ⟨rfl, hb2⟩
            have hB1 : But [wc.heap.size] wr w2 := ((But.refl _ wr).alloc _).trans (But.of_below' hb2)
            have hr2 := (HY.out.2.alloc (.cells #[.bool G.null, .int .i64 G.least, .int .i64 G.most, .int .u64 G.first.a, .int .u64 G.first.b, .int .u64 G.first.c, .int .u64 G.first.d] 66)).below hb2 (by simp; omega)
            have hz5 : wc.heap.size < w2.heap.size := hr2.lt
            have HB1 := hid hB1
            have q5 := hr2.c7f
            have HR2 := hid hr2
            clear hb2 hB1 hr2
            unfold Facts.cells
            go_wp2_with fail
            go_roundw
            case rel => exact ⟨k + 1, A.alt G, by omega, by go_num, Facts.alt_wf hAw hGw, by rw [hTk.out, hA.out]; rfl, HY.out.1.but1 (But.set7m HB1.out (by simp) _ _ _ _ _ _ _) (by omega) hMw (by omega), HR2.out.set7 _ _ _ _ _ _ _⟩
            case measure => simp [intOf]; omega
          · obtain rfl : k = l.length := by omega
            have r3 := HY.out.1.2.2.2.1.c7f
            have y3 := HY.out.1.2.2.2.1.lt
            go_wp2_with fail
            refine ret_row 4 66 rfl (w.heap.size + 1) rfl A.cells (CellsAt.of_row (T := 66) (HY.out.1.2.2.2.1.set7 _ _ _ _ _ _ _)) _ Try.underlying66 rfl (size_facts _ _ _ _ _ _ _) rfl ?_
            have hAe := hA.out
            rw [List.take_length] at hAe
            rw [HLE.out, HL.out, ← hAe]
            exact ⟨rfl, But.set7 HY.out.1.2.2.2.2.1 (by omega) _ _ _ _ _ _ _, IMap.other7 HY.out.1.2.1 (by omega) _ _ _ _ _ _ _⟩
      have d2 : (p.op == 2) = false := by simpa using o2
      have d3 : (p.op == 3) = false := by simpa using o3
      have d4 : (p.op == 4) = false := by simpa using o4
      have d5 : (p.op == 5) = false := by simpa using o5
      have d6 : (p.op == 6) = false := by simpa using o6
      have d9 : (p.op == 9) = false := by simpa using o9
      have hl : p.learn (Re.learns xs g).1 (Re.learns xs g).2 = (Facts.empty, (Re.learns xs g).2) := by unfold Pay.learn; rw [if_neg o2, if_neg o3, if_neg o4, if_neg o5, if_neg o6, if_neg o9]
      have HL := hid hl
      clear o2 o3 o4 o5 o6 o9 hl
      go_wp2_with fail
      refine ret_row 4 66 rfl (w.heap.size + 1) rfl [.bool true, .int .i64 0, .int .i64 0, .int .u64 0, .int .u64 0, .int .u64 0, .int .u64 0] (CellsAt.of_row (T := 66) (HX.out.2.2.2.1.set7 _ _ _ _ _ _ _)) _ Try.underlying66 rfl (size_facts _ _ _ _ _ _ _) rfl ?_
      rw [HLE.out, HL.out]
      exact ⟨rfl, But.set7 HBX.out (by omega) _ _ _ _ _ _ _, IMap.other7 HX.out.2.1 (by omega) _ _ _ _ _ _ _⟩
end Go.Proofs.Ytibfnmkeghkdpaa
