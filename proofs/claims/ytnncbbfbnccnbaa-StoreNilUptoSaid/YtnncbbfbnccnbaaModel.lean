/- The law's model: a call of a method of the reference's store. Written by gen_model.py. -/
import Derived.Test.YtnncbbfbnccnbaaRs7
import Derived.Test.YtnncbbfbnccnbaaDo
namespace Go.Proofs.Ytnncbbfbnccnbaa
open Go.RowKit
attribute [local go_sem] gives givesUpon

/-- A count that a store may have that crashed. -/
def Ab.tidy (a : Ab) : Prop := a.crash = true → a.count = 0
theorem Ab.tidy.began {a : Ab} (h : a.tidy) : a.began.tidy := by
  unfold Ab.began
  split
  · exact h
  split
  · exact fun _ => rfl
  split
  · rename_i hc _ _
    intro hk
    exact absurd hk hc
  · exact h
theorem Ab.tidy.create {a : Ab} (h : a.tidy) (nm : List UInt8) : (a.create nm).2.tidy := by
  have hb := h.began
  unfold Ab.create
  split
  · exact hb
  split
  · exact hb
  split
  · exact hb
  split <;> exact hb
theorem Ab.tidy.append {a : Ab} (h : a.tidy) (nm tx : List UInt8) : (a.append nm tx).2.tidy := by
  have hb := h.began
  unfold Ab.append
  split
  · exact hb
  split
  · exact hb
  split <;> exact hb
theorem Ab.tidy.read {a : Ab} (h : a.tidy) (nm : List UInt8) (i n : Int) : (a.read nm i n).2.2.tidy := by
  have hb := h.began
  unfold Ab.read
  split
  · exact hb
  split
  · exact hb
  split <;> exact hb
theorem Ab.tidy.sync {a : Ab} (h : a.tidy) (nm : List UInt8) : (a.sync nm).2.tidy := by
  have hb := h.began
  unfold Ab.sync
  split
  · exact hb
  split <;> exact hb
theorem Ab.tidy.dropped {a : Ab} (h : a.tidy) (nm : List UInt8) : (a.dropped nm).tidy := by
  unfold Ab.dropped
  split <;> exact h
theorem Ab.tidy.rename {a : Ab} (h : a.tidy) (nm nw : List UInt8) : (a.rename nm nw).2.tidy := by
  have hb := h.began
  unfold Ab.rename
  split
  · exact hb
  split
  · exact hb
  split
  · exact hb
  split
  · exact hb
  · exact hb.dropped nw
theorem Ab.tidy.remove {a : Ab} (h : a.tidy) (nm : List UInt8) : (a.remove nm).2.tidy := by
  have hb := h.began
  unfold Ab.remove
  split
  · exact hb
  split
  · exact hb
  · exact hb.dropped nm
theorem Ab.tidy.fail {a : Ab} (h : a.tidy) (n : Int) : (a.fail n).tidy := by
  unfold Ab.fail
  split
  · exact h
  · rename_i hc
    intro hk
    exact absurd hk hc
theorem Ab.tidy.call {a : Ab} (h : a.tidy) (c : CallD) : (a.call c).2.tidy := by
  unfold Ab.call
  split
  · exact h.create _
  split
  · exact h.append _ _
  split
  · exact h.read _ _ _
  split
  · exact h.sync _
  split
  · exact h.rename _ _
  split
  · exact h.remove _
  split
  · exact h.fail _
  split
  · exact fun _ => rfl
  · exact h
/-- What a call leaves. -/
def MPost (base B : Nat) (s : RS) (res : (List UInt8 × Int) × Ab) (w : World) (e : Ending) (w' : World) : Prop :=
  ∃ s', e = .returned (.agg #[.string ⟨res.1.1.toArray⟩, .int .i64 res.1.2]) ∧ s'.ab = res.2 ∧ RStep base B s s' w w'
theorem modelEnd {base B : Nat} {s s' : RS} {w w1 : World} (h : RStep base B s s' w w1) (hno : ¬ (w.heap.size + 1) ∈ s'.own B) (u v : Value) :
    RStep base B s s' w ((w1.setCell ⟨w.heap.size + 1, 0, none⟩ u).setCell ⟨w.heap.size + 1, 1, none⟩ v) := by
  refine ⟨h.at'.kept fun k hk => ?_, (h.but.setCell (.inr (by simp)) u).setCell (.inr (by simp)) v, h.own⟩
  have hne : k ≠ w.heap.size + 1 := fun e => hno (by rw [← e]; exact hk)
  rw [Below.heap_setCell _ _ _ _ hne, Below.heap_setCell _ _ _ _ hne]
/-- What the reference's store must be for a call. -/
structure RS.fine (s : RS) : Prop where
  good : s.ab.good
  tidy : s.ab.tidy
  apart : s.ab.apart
  sorted : s.files.Pairwise fun f g => bytesBefore f.name g.name = true
theorem RS.fine.cnt {s : RS} (h : s.fine) : s.cnt := ⟨h.good.ok.count.1, h.good.ok.count.2, h.tidy⟩
set_option maxRecDepth 100000 in
set_option maxHeartbeats 4000000 in
theorem model_Create (w : World) (B base : Nat) (s : RS) (op : Int) (nm tx : ByteArray) (st n : Int) (kept : Nat) (h : s.At w B base) (fine : s.fine) (hnm : nm.size ≤ 300) (_htx : tx.size ≤ 300) (_hst : st ≤ 9223372036854775807) (_hnn : n ≤ 9223372036854775807) (hbase : base ≤ w.heap.size) (hop : op = 0) :
    Calls Try.prog 17 #[.pointer (some ⟨B, 0, none⟩), .agg #[.int .i64 op, .string nm, .string tx, .int .i64 st, .int .i64 n, .int .u64 kept]] w (MPost base B s (lift (s.ab.create nm.data.toList)) w) := by
  have HC := hid True.intro
  subst hop
  go_enter Try.func17, Try.ntmps17
  go_upto_region 1 with fail
  have HS0 : Hid (RStep base B s s w ((w.alloc (.cells #[.int .i64 0, .string nm, .string tx, .int .i64 st, .int .i64 n, .int .u64 kept] 41)).alloc (.cells #[.string ⟨#[]⟩, .int .i64 0] 37))) := (RStep.refl h).more ((Grow.alloc w _).trans (Grow.alloc _ _)) (Nat.le_refl _)
  have r3 : Row ((w.alloc (.cells #[.int .i64 0, .string nm, .string tx, .int .i64 st, .int .i64 n, .int .u64 kept] 41)).alloc (.cells #[.string ⟨#[]⟩, .int .i64 0] 37)) w.heap.size [.int .i64 0, .string nm, .string tx, .int .i64 st, .int .i64 n, .int .u64 kept] 41 := (Row.at w [.int .i64 0, .string nm, .string tx, .int .i64 st, .int .i64 n, .int .u64 kept] _).below (Grow.alloc _ _) (Row.at w [.int .i64 0, .string nm, .string tx, .int .i64 st, .int .i64 n, .int .u64 kept] _).lt
  have r4 : Row ((w.alloc (.cells #[.int .i64 0, .string nm, .string tx, .int .i64 st, .int .i64 n, .int .u64 kept] 41)).alloc (.cells #[.string ⟨#[]⟩, .int .i64 0] 37)) (w.heap.size + 1) [.string ⟨#[]⟩, .int .i64 0] 37 := Row.new (cs := [.string ⟨#[]⟩, .int .i64 0]) (by simp)
  have HX := hid True.intro
  generalize ((w.alloc (.cells #[.int .i64 0, .string nm, .string tx, .int .i64 st, .int .i64 n, .int .u64 kept] 41)).alloc (.cells #[.string ⟨#[]⟩, .int .i64 0] 37)) = x at *
  have q3 := Row.six r3
  have z3 := r3.lt
  have HR4 := hid r4
  have hne : ¬ (w.heap.size + 1) ∈ s.own B := fun hk => by have := (h.blocks _ hk).2; omega
  have HNE := hid hne
  clear r3 r4 hne
  go_wp2_with fail
  refine (rCreate_any x B base s nm HS0.out.at' fine.cnt fine.good.few (by omega) (by have := HS0.out.but.size; omega)).mono ?_
  rintro e w1 ⟨s', rfl, hab, hs1⟩
  have hs2 := HS0.out.trans hs1
  have r4 := hs1.but.row HR4.out HNE.out
  have q4 := Row.two r4
  have z4 := r4.lt
  have HS := hid hs2
  have hno : ¬ (w.heap.size + 1) ∈ s'.own B := fun hk => by
    rcases hs1.own _ hk with h1 | h1
    · exact HNE.out h1
    · have := HR4.out.lt; omega
  have HNO := hid hno
  clear hno
  have HR5 := hid r4
  have HAB := hid hab
  clear hab
  clear hs1 hs2 r4 q3 z3 HR4 HS0
  go_wp2_with fail
  (try simp only [Exit.inBlock, Exit.then])
  refine bodyPost_ret (results_cell_row rfl _ _ (w.heap.size + 1) _ _ _ _ rfl (show _ = some (Obj.cells (List.toArray _) _) from (HR5.out.set 0 _).set 1 _) Try.underlying37 rfl (by kernel_rfl)) rfl ?_
  exact ⟨s', rfl, HAB.out, modelEnd HS.out HNO.out _ _⟩
set_option maxRecDepth 100000 in
set_option maxHeartbeats 4000000 in
theorem model_Append (w : World) (B base : Nat) (s : RS) (op : Int) (nm tx : ByteArray) (st n : Int) (kept : Nat) (h : s.At w B base) (fine : s.fine) (hnm : nm.size ≤ 300) (htx : tx.size ≤ 300) (_hst : st ≤ 9223372036854775807) (_hnn : n ≤ 9223372036854775807) (hbase : base ≤ w.heap.size) (hop : op = 1) :
    Calls Try.prog 17 #[.pointer (some ⟨B, 0, none⟩), .agg #[.int .i64 op, .string nm, .string tx, .int .i64 st, .int .i64 n, .int .u64 kept]] w (MPost base B s (lift (s.ab.append nm.data.toList tx.data.toList)) w) := by
  have HC := hid True.intro
  subst hop
  go_enter Try.func17, Try.ntmps17
  go_upto_region 1 with fail
  have HS0 : Hid (RStep base B s s w ((w.alloc (.cells #[.int .i64 1, .string nm, .string tx, .int .i64 st, .int .i64 n, .int .u64 kept] 41)).alloc (.cells #[.string ⟨#[]⟩, .int .i64 0] 37))) := (RStep.refl h).more ((Grow.alloc w _).trans (Grow.alloc _ _)) (Nat.le_refl _)
  have r3 : Row ((w.alloc (.cells #[.int .i64 1, .string nm, .string tx, .int .i64 st, .int .i64 n, .int .u64 kept] 41)).alloc (.cells #[.string ⟨#[]⟩, .int .i64 0] 37)) w.heap.size [.int .i64 1, .string nm, .string tx, .int .i64 st, .int .i64 n, .int .u64 kept] 41 := (Row.at w [.int .i64 1, .string nm, .string tx, .int .i64 st, .int .i64 n, .int .u64 kept] _).below (Grow.alloc _ _) (Row.at w [.int .i64 1, .string nm, .string tx, .int .i64 st, .int .i64 n, .int .u64 kept] _).lt
  have r4 : Row ((w.alloc (.cells #[.int .i64 1, .string nm, .string tx, .int .i64 st, .int .i64 n, .int .u64 kept] 41)).alloc (.cells #[.string ⟨#[]⟩, .int .i64 0] 37)) (w.heap.size + 1) [.string ⟨#[]⟩, .int .i64 0] 37 := Row.new (cs := [.string ⟨#[]⟩, .int .i64 0]) (by simp)
  have HX := hid True.intro
  generalize ((w.alloc (.cells #[.int .i64 1, .string nm, .string tx, .int .i64 st, .int .i64 n, .int .u64 kept] 41)).alloc (.cells #[.string ⟨#[]⟩, .int .i64 0] 37)) = x at *
  have q3 := Row.six r3
  have z3 := r3.lt
  have HR4 := hid r4
  have hne : ¬ (w.heap.size + 1) ∈ s.own B := fun hk => by have := (h.blocks _ hk).2; omega
  have HNE := hid hne
  clear r3 r4 hne
  go_wp2_with fail
  refine (rAppend_any x B base s nm tx HS0.out.at' fine.cnt fine.good fine.apart (by omega) (by omega) (by have := HS0.out.but.size; omega)).mono ?_
  rintro e w1 ⟨s', rfl, hab, hs1⟩
  have hs2 := HS0.out.trans hs1
  have r4 := hs1.but.row HR4.out HNE.out
  have q4 := Row.two r4
  have z4 := r4.lt
  have HS := hid hs2
  have hno : ¬ (w.heap.size + 1) ∈ s'.own B := fun hk => by
    rcases hs1.own _ hk with h1 | h1
    · exact HNE.out h1
    · have := HR4.out.lt; omega
  have HNO := hid hno
  clear hno
  have HR5 := hid r4
  have HAB := hid hab
  clear hab
  clear hs1 hs2 r4 q3 z3 HR4 HS0
  go_wp2_with fail
  (try simp only [Exit.inBlock, Exit.then])
  refine bodyPost_ret (results_cell_row rfl _ _ (w.heap.size + 1) _ _ _ _ rfl (show _ = some (Obj.cells (List.toArray _) _) from (HR5.out.set 0 _).set 1 _) Try.underlying37 rfl (by kernel_rfl)) rfl ?_
  exact ⟨s', rfl, HAB.out, modelEnd HS.out HNO.out _ _⟩
set_option maxRecDepth 100000 in
set_option maxHeartbeats 4000000 in
theorem model_Read (w : World) (B base : Nat) (s : RS) (op : Int) (nm tx : ByteArray) (st n : Int) (kept : Nat) (h : s.At w B base) (fine : s.fine) (hnm : nm.size ≤ 300) (_htx : tx.size ≤ 300) (hst : st ≤ 9223372036854775807) (hnn : n ≤ 9223372036854775807) (hbase : base ≤ w.heap.size) (hop : op = 2) :
    Calls Try.prog 17 #[.pointer (some ⟨B, 0, none⟩), .agg #[.int .i64 op, .string nm, .string tx, .int .i64 st, .int .i64 n, .int .u64 kept]] w (MPost base B s (((s.ab.read nm.data.toList st n).1, (s.ab.read nm.data.toList st n).2.1), (s.ab.read nm.data.toList st n).2.2) w) := by
  have HC := hid True.intro
  subst hop
  go_enter Try.func17, Try.ntmps17
  go_upto_region 1 with fail
  have HS0 : Hid (RStep base B s s w ((w.alloc (.cells #[.int .i64 2, .string nm, .string tx, .int .i64 st, .int .i64 n, .int .u64 kept] 41)).alloc (.cells #[.string ⟨#[]⟩, .int .i64 0] 37))) := (RStep.refl h).more ((Grow.alloc w _).trans (Grow.alloc _ _)) (Nat.le_refl _)
  have r3 : Row ((w.alloc (.cells #[.int .i64 2, .string nm, .string tx, .int .i64 st, .int .i64 n, .int .u64 kept] 41)).alloc (.cells #[.string ⟨#[]⟩, .int .i64 0] 37)) w.heap.size [.int .i64 2, .string nm, .string tx, .int .i64 st, .int .i64 n, .int .u64 kept] 41 := (Row.at w [.int .i64 2, .string nm, .string tx, .int .i64 st, .int .i64 n, .int .u64 kept] _).below (Grow.alloc _ _) (Row.at w [.int .i64 2, .string nm, .string tx, .int .i64 st, .int .i64 n, .int .u64 kept] _).lt
  have r4 : Row ((w.alloc (.cells #[.int .i64 2, .string nm, .string tx, .int .i64 st, .int .i64 n, .int .u64 kept] 41)).alloc (.cells #[.string ⟨#[]⟩, .int .i64 0] 37)) (w.heap.size + 1) [.string ⟨#[]⟩, .int .i64 0] 37 := Row.new (cs := [.string ⟨#[]⟩, .int .i64 0]) (by simp)
  have HX := hid True.intro
  generalize ((w.alloc (.cells #[.int .i64 2, .string nm, .string tx, .int .i64 st, .int .i64 n, .int .u64 kept] 41)).alloc (.cells #[.string ⟨#[]⟩, .int .i64 0] 37)) = x at *
  have q3 := Row.six r3
  have z3 := r3.lt
  have HR4 := hid r4
  have hne : ¬ (w.heap.size + 1) ∈ s.own B := fun hk => by have := (h.blocks _ hk).2; omega
  have HNE := hid hne
  clear r3 r4 hne
  go_wp2_with fail
  refine (rRead_any x B base s nm st n HS0.out.at' fine.cnt fine.good fine.apart (by omega) hst hnn (by have := HS0.out.but.size; omega)).mono ?_
  rintro e w1 ⟨s', rfl, hab, hs1⟩
  have hs2 := HS0.out.trans hs1
  have r4 := hs1.but.row HR4.out HNE.out
  have q4 := Row.two r4
  have z4 := r4.lt
  have HS := hid hs2
  have hno : ¬ (w.heap.size + 1) ∈ s'.own B := fun hk => by
    rcases hs1.own _ hk with h1 | h1
    · exact HNE.out h1
    · have := HR4.out.lt; omega
  have HNO := hid hno
  clear hno
  have HR5 := hid r4
  have HAB := hid hab
  clear hab
  clear hs1 hs2 r4 q3 z3 HR4 HS0
  go_wp2_with fail
  (try simp only [Exit.inBlock, Exit.then])
  refine bodyPost_ret (results_cell_row rfl _ _ (w.heap.size + 1) _ _ _ _ rfl (show _ = some (Obj.cells (List.toArray _) _) from (HR5.out.set 0 _).set 1 _) Try.underlying37 rfl (by kernel_rfl)) rfl ?_
  exact ⟨s', rfl, HAB.out, modelEnd HS.out HNO.out _ _⟩
set_option maxRecDepth 100000 in
set_option maxHeartbeats 4000000 in
theorem model_Sync (w : World) (B base : Nat) (s : RS) (op : Int) (nm tx : ByteArray) (st n : Int) (kept : Nat) (h : s.At w B base) (fine : s.fine) (hnm : nm.size ≤ 300) (_htx : tx.size ≤ 300) (_hst : st ≤ 9223372036854775807) (_hnn : n ≤ 9223372036854775807) (hbase : base ≤ w.heap.size) (hop : op = 3) :
    Calls Try.prog 17 #[.pointer (some ⟨B, 0, none⟩), .agg #[.int .i64 op, .string nm, .string tx, .int .i64 st, .int .i64 n, .int .u64 kept]] w (MPost base B s (lift (s.ab.sync nm.data.toList)) w) := by
  have HC := hid True.intro
  subst hop
  go_enter Try.func17, Try.ntmps17
  go_upto_region 1 with fail
  have HS0 : Hid (RStep base B s s w ((w.alloc (.cells #[.int .i64 3, .string nm, .string tx, .int .i64 st, .int .i64 n, .int .u64 kept] 41)).alloc (.cells #[.string ⟨#[]⟩, .int .i64 0] 37))) := (RStep.refl h).more ((Grow.alloc w _).trans (Grow.alloc _ _)) (Nat.le_refl _)
  have r3 : Row ((w.alloc (.cells #[.int .i64 3, .string nm, .string tx, .int .i64 st, .int .i64 n, .int .u64 kept] 41)).alloc (.cells #[.string ⟨#[]⟩, .int .i64 0] 37)) w.heap.size [.int .i64 3, .string nm, .string tx, .int .i64 st, .int .i64 n, .int .u64 kept] 41 := (Row.at w [.int .i64 3, .string nm, .string tx, .int .i64 st, .int .i64 n, .int .u64 kept] _).below (Grow.alloc _ _) (Row.at w [.int .i64 3, .string nm, .string tx, .int .i64 st, .int .i64 n, .int .u64 kept] _).lt
  have r4 : Row ((w.alloc (.cells #[.int .i64 3, .string nm, .string tx, .int .i64 st, .int .i64 n, .int .u64 kept] 41)).alloc (.cells #[.string ⟨#[]⟩, .int .i64 0] 37)) (w.heap.size + 1) [.string ⟨#[]⟩, .int .i64 0] 37 := Row.new (cs := [.string ⟨#[]⟩, .int .i64 0]) (by simp)
  have HX := hid True.intro
  generalize ((w.alloc (.cells #[.int .i64 3, .string nm, .string tx, .int .i64 st, .int .i64 n, .int .u64 kept] 41)).alloc (.cells #[.string ⟨#[]⟩, .int .i64 0] 37)) = x at *
  have q3 := Row.six r3
  have z3 := r3.lt
  have HR4 := hid r4
  have hne : ¬ (w.heap.size + 1) ∈ s.own B := fun hk => by have := (h.blocks _ hk).2; omega
  have HNE := hid hne
  clear r3 r4 hne
  go_wp2_with fail
  refine (rSync_any x B base s nm HS0.out.at' fine.cnt fine.good fine.apart (by omega) (by have := HS0.out.but.size; omega)).mono ?_
  rintro e w1 ⟨s', rfl, hab, hs1⟩
  have hs2 := HS0.out.trans hs1
  have r4 := hs1.but.row HR4.out HNE.out
  have q4 := Row.two r4
  have z4 := r4.lt
  have HS := hid hs2
  have hno : ¬ (w.heap.size + 1) ∈ s'.own B := fun hk => by
    rcases hs1.own _ hk with h1 | h1
    · exact HNE.out h1
    · have := HR4.out.lt; omega
  have HNO := hid hno
  clear hno
  have HR5 := hid r4
  have HAB := hid hab
  clear hab
  clear hs1 hs2 r4 q3 z3 HR4 HS0
  go_wp2_with fail
  (try simp only [Exit.inBlock, Exit.then])
  refine bodyPost_ret (results_cell_row rfl _ _ (w.heap.size + 1) _ _ _ _ rfl (show _ = some (Obj.cells (List.toArray _) _) from (HR5.out.set 0 _).set 1 _) Try.underlying37 rfl (by kernel_rfl)) rfl ?_
  exact ⟨s', rfl, HAB.out, modelEnd HS.out HNO.out _ _⟩
set_option maxRecDepth 100000 in
set_option maxHeartbeats 4000000 in
theorem model_Rename (w : World) (B base : Nat) (s : RS) (op : Int) (nm tx : ByteArray) (st n : Int) (kept : Nat) (h : s.At w B base) (fine : s.fine) (hnm : nm.size ≤ 300) (htx : tx.size ≤ 300) (_hst : st ≤ 9223372036854775807) (_hnn : n ≤ 9223372036854775807) (hbase : base ≤ w.heap.size) (hop : op = 4) :
    Calls Try.prog 17 #[.pointer (some ⟨B, 0, none⟩), .agg #[.int .i64 op, .string nm, .string tx, .int .i64 st, .int .i64 n, .int .u64 kept]] w (MPost base B s (lift (s.ab.rename nm.data.toList tx.data.toList)) w) := by
  have HC := hid True.intro
  subst hop
  go_enter Try.func17, Try.ntmps17
  go_upto_region 1 with fail
  have HS0 : Hid (RStep base B s s w ((w.alloc (.cells #[.int .i64 4, .string nm, .string tx, .int .i64 st, .int .i64 n, .int .u64 kept] 41)).alloc (.cells #[.string ⟨#[]⟩, .int .i64 0] 37))) := (RStep.refl h).more ((Grow.alloc w _).trans (Grow.alloc _ _)) (Nat.le_refl _)
  have r3 : Row ((w.alloc (.cells #[.int .i64 4, .string nm, .string tx, .int .i64 st, .int .i64 n, .int .u64 kept] 41)).alloc (.cells #[.string ⟨#[]⟩, .int .i64 0] 37)) w.heap.size [.int .i64 4, .string nm, .string tx, .int .i64 st, .int .i64 n, .int .u64 kept] 41 := (Row.at w [.int .i64 4, .string nm, .string tx, .int .i64 st, .int .i64 n, .int .u64 kept] _).below (Grow.alloc _ _) (Row.at w [.int .i64 4, .string nm, .string tx, .int .i64 st, .int .i64 n, .int .u64 kept] _).lt
  have r4 : Row ((w.alloc (.cells #[.int .i64 4, .string nm, .string tx, .int .i64 st, .int .i64 n, .int .u64 kept] 41)).alloc (.cells #[.string ⟨#[]⟩, .int .i64 0] 37)) (w.heap.size + 1) [.string ⟨#[]⟩, .int .i64 0] 37 := Row.new (cs := [.string ⟨#[]⟩, .int .i64 0]) (by simp)
  have HX := hid True.intro
  generalize ((w.alloc (.cells #[.int .i64 4, .string nm, .string tx, .int .i64 st, .int .i64 n, .int .u64 kept] 41)).alloc (.cells #[.string ⟨#[]⟩, .int .i64 0] 37)) = x at *
  have q3 := Row.six r3
  have z3 := r3.lt
  have HR4 := hid r4
  have hne : ¬ (w.heap.size + 1) ∈ s.own B := fun hk => by have := (h.blocks _ hk).2; omega
  have HNE := hid hne
  clear r3 r4 hne
  go_wp2_with fail
  refine (rRename_any x B base s nm tx HS0.out.at' fine.cnt fine.good fine.apart (by omega) (by omega) fine.sorted (by have := HS0.out.but.size; omega)).mono ?_
  rintro e w1 ⟨s', rfl, hab, hs1⟩
  have hs2 := HS0.out.trans hs1
  have r4 := hs1.but.row HR4.out HNE.out
  have q4 := Row.two r4
  have z4 := r4.lt
  have HS := hid hs2
  have hno : ¬ (w.heap.size + 1) ∈ s'.own B := fun hk => by
    rcases hs1.own _ hk with h1 | h1
    · exact HNE.out h1
    · have := HR4.out.lt; omega
  have HNO := hid hno
  clear hno
  have HR5 := hid r4
  have HAB := hid hab
  clear hab
  clear hs1 hs2 r4 q3 z3 HR4 HS0
  go_wp2_with fail
  (try simp only [Exit.inBlock, Exit.then])
  refine bodyPost_ret (results_cell_row rfl _ _ (w.heap.size + 1) _ _ _ _ rfl (show _ = some (Obj.cells (List.toArray _) _) from (HR5.out.set 0 _).set 1 _) Try.underlying37 rfl (by kernel_rfl)) rfl ?_
  exact ⟨s', rfl, HAB.out, modelEnd HS.out HNO.out _ _⟩
set_option maxRecDepth 100000 in
set_option maxHeartbeats 4000000 in
theorem model_Remove (w : World) (B base : Nat) (s : RS) (op : Int) (nm tx : ByteArray) (st n : Int) (kept : Nat) (h : s.At w B base) (fine : s.fine) (hnm : nm.size ≤ 300) (_htx : tx.size ≤ 300) (_hst : st ≤ 9223372036854775807) (_hnn : n ≤ 9223372036854775807) (hbase : base ≤ w.heap.size) (hop : op = 5) :
    Calls Try.prog 17 #[.pointer (some ⟨B, 0, none⟩), .agg #[.int .i64 op, .string nm, .string tx, .int .i64 st, .int .i64 n, .int .u64 kept]] w (MPost base B s (lift (s.ab.remove nm.data.toList)) w) := by
  have HC := hid True.intro
  subst hop
  go_enter Try.func17, Try.ntmps17
  go_upto_region 1 with fail
  have HS0 : Hid (RStep base B s s w ((w.alloc (.cells #[.int .i64 5, .string nm, .string tx, .int .i64 st, .int .i64 n, .int .u64 kept] 41)).alloc (.cells #[.string ⟨#[]⟩, .int .i64 0] 37))) := (RStep.refl h).more ((Grow.alloc w _).trans (Grow.alloc _ _)) (Nat.le_refl _)
  have r3 : Row ((w.alloc (.cells #[.int .i64 5, .string nm, .string tx, .int .i64 st, .int .i64 n, .int .u64 kept] 41)).alloc (.cells #[.string ⟨#[]⟩, .int .i64 0] 37)) w.heap.size [.int .i64 5, .string nm, .string tx, .int .i64 st, .int .i64 n, .int .u64 kept] 41 := (Row.at w [.int .i64 5, .string nm, .string tx, .int .i64 st, .int .i64 n, .int .u64 kept] _).below (Grow.alloc _ _) (Row.at w [.int .i64 5, .string nm, .string tx, .int .i64 st, .int .i64 n, .int .u64 kept] _).lt
  have r4 : Row ((w.alloc (.cells #[.int .i64 5, .string nm, .string tx, .int .i64 st, .int .i64 n, .int .u64 kept] 41)).alloc (.cells #[.string ⟨#[]⟩, .int .i64 0] 37)) (w.heap.size + 1) [.string ⟨#[]⟩, .int .i64 0] 37 := Row.new (cs := [.string ⟨#[]⟩, .int .i64 0]) (by simp)
  have HX := hid True.intro
  generalize ((w.alloc (.cells #[.int .i64 5, .string nm, .string tx, .int .i64 st, .int .i64 n, .int .u64 kept] 41)).alloc (.cells #[.string ⟨#[]⟩, .int .i64 0] 37)) = x at *
  have q3 := Row.six r3
  have z3 := r3.lt
  have HR4 := hid r4
  have hne : ¬ (w.heap.size + 1) ∈ s.own B := fun hk => by have := (h.blocks _ hk).2; omega
  have HNE := hid hne
  clear r3 r4 hne
  go_wp2_with fail
  refine (rRemove_any x B base s nm HS0.out.at' fine.cnt fine.good fine.apart (by omega) (by have := HS0.out.but.size; omega)).mono ?_
  rintro e w1 ⟨s', rfl, hab, hs1⟩
  have hs2 := HS0.out.trans hs1
  have r4 := hs1.but.row HR4.out HNE.out
  have q4 := Row.two r4
  have z4 := r4.lt
  have HS := hid hs2
  have hno : ¬ (w.heap.size + 1) ∈ s'.own B := fun hk => by
    rcases hs1.own _ hk with h1 | h1
    · exact HNE.out h1
    · have := HR4.out.lt; omega
  have HNO := hid hno
  clear hno
  have HR5 := hid r4
  have HAB := hid hab
  clear hab
  clear hs1 hs2 r4 q3 z3 HR4 HS0
  go_wp2_with fail
  (try simp only [Exit.inBlock, Exit.then])
  refine bodyPost_ret (results_cell_row rfl _ _ (w.heap.size + 1) _ _ _ _ rfl (show _ = some (Obj.cells (List.toArray _) _) from (HR5.out.set 0 _).set 1 _) Try.underlying37 rfl (by kernel_rfl)) rfl ?_
  exact ⟨s', rfl, HAB.out, modelEnd HS.out HNO.out _ _⟩
set_option maxRecDepth 100000 in
set_option maxHeartbeats 4000000 in
theorem model_FailAfter (w : World) (B base : Nat) (s : RS) (op : Int) (nm tx : ByteArray) (st n : Int) (kept : Nat) (h : s.At w B base) (_fine : s.fine) (_hnm : nm.size ≤ 300) (_htx : tx.size ≤ 300) (_hst : st ≤ 9223372036854775807) (_hnn : n ≤ 9223372036854775807) (_hbase : base ≤ w.heap.size) (hop : op = 6) :
    Calls Try.prog 17 #[.pointer (some ⟨B, 0, none⟩), .agg #[.int .i64 op, .string nm, .string tx, .int .i64 st, .int .i64 n, .int .u64 kept]] w (MPost base B s (([], 0), s.ab.fail n) w) := by
  have HC := hid True.intro
  subst hop
  go_enter Try.func17, Try.ntmps17
  go_upto_region 1 with fail
  have HS0 : Hid (RStep base B s s w ((w.alloc (.cells #[.int .i64 6, .string nm, .string tx, .int .i64 st, .int .i64 n, .int .u64 kept] 41)).alloc (.cells #[.string ⟨#[]⟩, .int .i64 0] 37))) := (RStep.refl h).more ((Grow.alloc w _).trans (Grow.alloc _ _)) (Nat.le_refl _)
  have r3 : Row ((w.alloc (.cells #[.int .i64 6, .string nm, .string tx, .int .i64 st, .int .i64 n, .int .u64 kept] 41)).alloc (.cells #[.string ⟨#[]⟩, .int .i64 0] 37)) w.heap.size [.int .i64 6, .string nm, .string tx, .int .i64 st, .int .i64 n, .int .u64 kept] 41 := (Row.at w [.int .i64 6, .string nm, .string tx, .int .i64 st, .int .i64 n, .int .u64 kept] _).below (Grow.alloc _ _) (Row.at w [.int .i64 6, .string nm, .string tx, .int .i64 st, .int .i64 n, .int .u64 kept] _).lt
  have r4 : Row ((w.alloc (.cells #[.int .i64 6, .string nm, .string tx, .int .i64 st, .int .i64 n, .int .u64 kept] 41)).alloc (.cells #[.string ⟨#[]⟩, .int .i64 0] 37)) (w.heap.size + 1) [.string ⟨#[]⟩, .int .i64 0] 37 := Row.new (cs := [.string ⟨#[]⟩, .int .i64 0]) (by simp)
  have HX := hid True.intro
  generalize ((w.alloc (.cells #[.int .i64 6, .string nm, .string tx, .int .i64 st, .int .i64 n, .int .u64 kept] 41)).alloc (.cells #[.string ⟨#[]⟩, .int .i64 0] 37)) = x at *
  have q3 := Row.six r3
  have z3 := r3.lt
  have HR4 := hid r4
  have hne : ¬ (w.heap.size + 1) ∈ s.own B := fun hk => by have := (h.blocks _ hk).2; omega
  have HNE := hid hne
  clear r3 r4 hne
  go_wp2_with fail
  refine (rFail_any x B base s n HS0.out.at').mono ?_
  rintro e w1 ⟨rfl, hs1⟩
  generalize hsd : (if s.crash = true then s else { s with count := max n 0 } : RS) = s' at hs1
  have hab : s'.ab = s.ab.fail n := by rw [← hsd]; unfold Ab.fail; show _ = if s.crash = true then _ else _; split <;> rfl
  have HAB := hid hab
  clear hab hsd
  have hs2 := HS0.out.trans hs1
  have r4 := hs1.but.row HR4.out HNE.out
  have q4 := Row.two r4
  have z4 := r4.lt
  have HS := hid hs2
  have hno : ¬ (w.heap.size + 1) ∈ s'.own B := fun hk => by
    rcases hs1.own _ hk with h1 | h1
    · exact HNE.out h1
    · have := HR4.out.lt; omega
  have HNO := hid hno
  clear hno
  have HR5 := hid r4
  clear hs1 hs2 r4 q3 z3 HR4 HS0
  go_wp2_with fail
  (try simp only [Exit.inBlock, Exit.then])
  refine bodyPost_ret (results_cell_row rfl _ _ (w.heap.size + 1) _ _ _ _ rfl (show _ = some (Obj.cells (List.toArray _) _) from (HR5.out.set 0 _).set 1 _) Try.underlying37 rfl (by kernel_rfl)) rfl ?_
  exact ⟨s', rfl, HAB.out, modelEnd HS.out HNO.out _ _⟩
set_option maxRecDepth 100000 in
set_option maxHeartbeats 4000000 in
theorem model_Restart (w : World) (B base : Nat) (s : RS) (op : Int) (nm tx : ByteArray) (st n : Int) (kept : Nat) (h : s.At w B base) (fine : s.fine) (_hnm : nm.size ≤ 300) (_htx : tx.size ≤ 300) (_hst : st ≤ 9223372036854775807) (_hnn : n ≤ 9223372036854775807) (hbase : base ≤ w.heap.size) (hop : op = 7) :
    Calls Try.prog 17 #[.pointer (some ⟨B, 0, none⟩), .agg #[.int .i64 op, .string nm, .string tx, .int .i64 st, .int .i64 n, .int .u64 kept]] w (MPost base B s (([], 0), s.ab.restart kept) w) := by
  have HC := hid True.intro
  subst hop
  go_enter Try.func17, Try.ntmps17
  go_upto_region 1 with fail
  have HS0 : Hid (RStep base B s s w ((w.alloc (.cells #[.int .i64 7, .string nm, .string tx, .int .i64 st, .int .i64 n, .int .u64 kept] 41)).alloc (.cells #[.string ⟨#[]⟩, .int .i64 0] 37))) := (RStep.refl h).more ((Grow.alloc w _).trans (Grow.alloc _ _)) (Nat.le_refl _)
  have r3 : Row ((w.alloc (.cells #[.int .i64 7, .string nm, .string tx, .int .i64 st, .int .i64 n, .int .u64 kept] 41)).alloc (.cells #[.string ⟨#[]⟩, .int .i64 0] 37)) w.heap.size [.int .i64 7, .string nm, .string tx, .int .i64 st, .int .i64 n, .int .u64 kept] 41 := (Row.at w [.int .i64 7, .string nm, .string tx, .int .i64 st, .int .i64 n, .int .u64 kept] _).below (Grow.alloc _ _) (Row.at w [.int .i64 7, .string nm, .string tx, .int .i64 st, .int .i64 n, .int .u64 kept] _).lt
  have r4 : Row ((w.alloc (.cells #[.int .i64 7, .string nm, .string tx, .int .i64 st, .int .i64 n, .int .u64 kept] 41)).alloc (.cells #[.string ⟨#[]⟩, .int .i64 0] 37)) (w.heap.size + 1) [.string ⟨#[]⟩, .int .i64 0] 37 := Row.new (cs := [.string ⟨#[]⟩, .int .i64 0]) (by simp)
  have HX := hid True.intro
  generalize ((w.alloc (.cells #[.int .i64 7, .string nm, .string tx, .int .i64 st, .int .i64 n, .int .u64 kept] 41)).alloc (.cells #[.string ⟨#[]⟩, .int .i64 0] 37)) = x at *
  have q3 := Row.six r3
  have z3 := r3.lt
  have HR4 := hid r4
  have hne : ¬ (w.heap.size + 1) ∈ s.own B := fun hk => by have := (h.blocks _ hk).2; omega
  have HNE := hid hne
  clear r3 r4 hne
  go_wp2_with fail
  refine (rRestart_any x B base s kept HS0.out.at' fine.good (by have := HS0.out.but.size; omega)).mono ?_
  rintro e w1 ⟨s', rfl, hab, hs1⟩
  have hs2 := HS0.out.trans hs1
  have r4 := hs1.but.row HR4.out HNE.out
  have q4 := Row.two r4
  have z4 := r4.lt
  have HS := hid hs2
  have hno : ¬ (w.heap.size + 1) ∈ s'.own B := fun hk => by
    rcases hs1.own _ hk with h1 | h1
    · exact HNE.out h1
    · have := HR4.out.lt; omega
  have HNO := hid hno
  clear hno
  have HR5 := hid r4
  have HAB := hid hab
  clear hab
  clear hs1 hs2 r4 q3 z3 HR4 HS0
  go_wp2_with fail
  (try simp only [Exit.inBlock, Exit.then])
  refine bodyPost_ret (results_cell_row rfl _ _ (w.heap.size + 1) _ _ _ _ rfl (show _ = some (Obj.cells (List.toArray _) _) from (HR5.out.set 0 _).set 1 _) Try.underlying37 rfl (by kernel_rfl)) rfl ?_
  exact ⟨s', rfl, HAB.out, modelEnd HS.out HNO.out _ _⟩
set_option maxRecDepth 100000 in
set_option maxHeartbeats 4000000 in
theorem model_none (w : World) (B base : Nat) (s : RS) (op : Int) (nm tx : ByteArray) (st n : Int) (kept : Nat) (h : s.At w B base) (_fine : s.fine) (_hnm : nm.size ≤ 300) (_htx : tx.size ≤ 300) (_hst : st ≤ 9223372036854775807) (_hnn : n ≤ 9223372036854775807) (_hbase : base ≤ w.heap.size) (hop : (op == 0) = false ∧ (op == 1) = false ∧ (op == 2) = false ∧ (op == 3) = false ∧ (op == 4) = false ∧ (op == 5) = false ∧ (op == 6) = false ∧ (op == 7) = false) :
    Calls Try.prog 17 #[.pointer (some ⟨B, 0, none⟩), .agg #[.int .i64 op, .string nm, .string tx, .int .i64 st, .int .i64 n, .int .u64 kept]] w (MPost base B s (([], 0), s.ab) w) := by
  have HC := hid True.intro
  obtain ⟨o0, o1, o2, o3, o4, o5, o6, o7⟩ := hop
  go_enter Try.func17, Try.ntmps17
  go_upto_region 1 with fail
  have HS0 : Hid (RStep base B s s w ((w.alloc (.cells #[.int .i64 op, .string nm, .string tx, .int .i64 st, .int .i64 n, .int .u64 kept] 41)).alloc (.cells #[.string ⟨#[]⟩, .int .i64 0] 37))) := (RStep.refl h).more ((Grow.alloc w _).trans (Grow.alloc _ _)) (Nat.le_refl _)
  have r3 : Row ((w.alloc (.cells #[.int .i64 op, .string nm, .string tx, .int .i64 st, .int .i64 n, .int .u64 kept] 41)).alloc (.cells #[.string ⟨#[]⟩, .int .i64 0] 37)) w.heap.size [.int .i64 op, .string nm, .string tx, .int .i64 st, .int .i64 n, .int .u64 kept] 41 := (Row.at w [.int .i64 op, .string nm, .string tx, .int .i64 st, .int .i64 n, .int .u64 kept] _).below (Grow.alloc _ _) (Row.at w [.int .i64 op, .string nm, .string tx, .int .i64 st, .int .i64 n, .int .u64 kept] _).lt
  have r4 : Row ((w.alloc (.cells #[.int .i64 op, .string nm, .string tx, .int .i64 st, .int .i64 n, .int .u64 kept] 41)).alloc (.cells #[.string ⟨#[]⟩, .int .i64 0] 37)) (w.heap.size + 1) [.string ⟨#[]⟩, .int .i64 0] 37 := Row.new (cs := [.string ⟨#[]⟩, .int .i64 0]) (by simp)
  have HX := hid True.intro
  generalize ((w.alloc (.cells #[.int .i64 op, .string nm, .string tx, .int .i64 st, .int .i64 n, .int .u64 kept] 41)).alloc (.cells #[.string ⟨#[]⟩, .int .i64 0] 37)) = x at *
  have q3 := Row.six r3
  have z3 := r3.lt
  have HR4 := hid r4
  have hne : ¬ (w.heap.size + 1) ∈ s.own B := fun hk => by have := (h.blocks _ hk).2; omega
  have HNE := hid hne
  clear r3 r4 hne
  have q4 := Row.two HR4.out
  have z4 := HR4.out.lt
  clear HX
  go_wp2_with fail
  (try simp only [Exit.inBlock, Exit.then])
  refine bodyPost_ret (results_cell_row rfl _ _ (w.heap.size + 1) _ _ _ _ rfl (show _ = some (Obj.cells (List.toArray _) _) from (HR4.out.set 0 _).set 1 _) Try.underlying37 rfl (by kernel_rfl)) rfl ?_
  exact ⟨s, rfl, rfl, modelEnd HS0.out HNE.out _ _⟩
theorem model_any (w : World) (B base : Nat) (s : RS) (c : CallD) (h : s.At w B base) (fine : s.fine) (hc : c.fit) (hbase : base ≤ w.heap.size) :
    Calls Try.prog 17 #[.pointer (some ⟨B, 0, none⟩), .agg c.cells.toArray] w (MPost base B s (s.ab.call c) w) := by
  obtain ⟨op, nm, tx, st, n, kept⟩ := c
  obtain ⟨c1, c2, c3, c4⟩ := hc
  unfold Ab.call
  show Calls _ _ _ _ (MPost base B s (if op = 0 then _ else if op = 1 then _ else if op = 2 then _ else if op = 3 then _ else if op = 4 then _ else if op = 5 then _ else if op = 6 then _ else if op = 7 then _ else _) w)
  split
  · exact model_Create w B base s op nm tx st n kept h fine c1 c2 c3 c4 hbase (by assumption)
  split
  · exact model_Append w B base s op nm tx st n kept h fine c1 c2 c3 c4 hbase (by assumption)
  split
  · exact model_Read w B base s op nm tx st n kept h fine c1 c2 c3 c4 hbase (by assumption)
  split
  · exact model_Sync w B base s op nm tx st n kept h fine c1 c2 c3 c4 hbase (by assumption)
  split
  · exact model_Rename w B base s op nm tx st n kept h fine c1 c2 c3 c4 hbase (by assumption)
  split
  · exact model_Remove w B base s op nm tx st n kept h fine c1 c2 c3 c4 hbase (by assumption)
  split
  · exact model_FailAfter w B base s op nm tx st n kept h fine c1 c2 c3 c4 hbase (by assumption)
  split
  · exact model_Restart w B base s op nm tx st n kept h fine c1 c2 c3 c4 hbase (by assumption)
  · exact model_none w B base s op nm tx st n kept h fine c1 c2 c3 c4 hbase (by simp only [beq_eq_false_iff_ne]; omega)
end Go.Proofs.Ytnncbbfbnccnbaa
