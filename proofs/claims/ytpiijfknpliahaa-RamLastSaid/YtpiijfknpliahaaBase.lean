/- Words for worlds of known blocks: what a call leaves as it was ('Keeps'), a block that is known whole ('Blk'), a slice that reads as cells ('SlR'); the builtins copy and append at elements of any number of cells. No condition: plain lemmas over any program. -/
import Derived.WalkKit
import Derived.Handy
import Derived.Laws.CopyOwn
import Derived.Deep.QuietTactic
import Derived.BigQuiet
import Derived.Lib.Hide
import Derived.Deep.RegionHeld3
import Derived.Deep.DrawnRows
import Derived.Great.BuildSlice
import Derived.Lib.SliceRun
namespace Go.Proofs.Ytpiijfknpliahaa
open Go.RowKit

/-- All blocks that lay in w, but for those of S, lie as they lay. -/
structure Keeps (S : Nat → Prop) (w w' : World) : Prop where
  os : w'.os = w.os
  tape : w'.tape = w.tape
  output : w'.output = w.output
  size : w.heap.size ≤ w'.heap.size
  block : ∀ k, k < w.heap.size → ¬ S k → w'.heap[k]? = w.heap[k]?

theorem Keeps.refl (S : Nat → Prop) (w : World) : Keeps S w w := ⟨rfl, rfl, rfl, Nat.le_refl _, fun _ _ _ => rfl⟩
theorem Keeps.trans {S : Nat → Prop} {a b c : World} (h : Keeps S a b) (k : Keeps S b c) : Keeps S a c :=
  ⟨k.os.trans h.os, k.tape.trans h.tape, k.output.trans h.output, Nat.le_trans h.size k.size,
   fun i hi hs => (k.block i (Nat.lt_of_lt_of_le hi h.size) hs).trans (h.block i hi hs)⟩
theorem Keeps.mono {S T : Nat → Prop} {w w' : World} (h : Keeps S w w') (hT : ∀ k, S k → T k) : Keeps T w w' :=
  ⟨h.os, h.tape, h.output, h.size, fun k hk hs => h.block k hk (fun x => hs (hT k x))⟩
theorem Keeps.monoLt {S T : Nat → Prop} {w w' : World} (h : Keeps S w w') (hT : ∀ k, k < w.heap.size → S k → T k) : Keeps T w w' :=
  ⟨h.os, h.tape, h.output, h.size, fun k hk hs => h.block k hk (fun x => hs (hT k hk x))⟩
theorem Keeps.ofBelow {S : Nat → Prop} {w w' : World} (h : Below w.heap.size w w') : Keeps S w w' :=
  ⟨h.os, h.tape, h.output, h.size, fun k hk _ => h.block k hk⟩
theorem Keeps.ofBelow' {S : Nat → Prop} {B : Nat} {w w' : World} (h : Below B w w') (hS : ∀ k, B ≤ k → S k) : Keeps S w w' :=
  ⟨h.os, h.tape, h.output, h.size, fun k _ hs => h.block k (by
    rcases Nat.lt_or_ge k B with hlt | hge
    · exact hlt
    · exact (hs (hS k hge)).elim)⟩
theorem Keeps.below {S : Nat → Prop} {w w' : World} (h : Keeps S w w') {B : Nat} (hB : B ≤ w.heap.size) (hS : ∀ k, S k → B ≤ k) : Below B w w' :=
  ⟨h.os, h.tape, h.output, h.size, fun k hk => h.block k (by omega) (fun x => by have := hS k x; omega)⟩
theorem Keeps.drewN (S : Nat → Prop) (w : World) (n : Nat) : Keeps S w (w.drewN n) := ⟨rfl, rfl, rfl, Nat.le_refl _, fun _ _ _ => rfl⟩
theorem Keeps.drew (S : Nat → Prop) (w : World) : Keeps S w w.drew := ⟨rfl, rfl, rfl, Nat.le_refl _, fun _ _ _ => rfl⟩
theorem Keeps.alloc (S : Nat → Prop) (w : World) (o : Obj) : Keeps S w (w.alloc o) :=
  ⟨rfl, rfl, rfl, by simp, fun k hk _ => Below.heap_alloc _ _ _ hk⟩
theorem Keeps.setCell {S : Nat → Prop} (w : World) (a : Addr) (v : Value) (hS : a.block < w.heap.size → S a.block) : Keeps S w (w.setCell a v) :=
  ⟨rfl, rfl, rfl, by simp [World.setCell], fun k hk hs => Below.heap_setCell _ _ _ _ (fun e => hs (by rw [e]; exact hS (by rw [← e]; exact hk)))⟩
theorem Keeps.setRow {S : Nat → Prop} (w : World) (g : Nat) (cs : Array Value) (hS : S g) : Keeps S w (w.setRow g cs) :=
  ⟨rfl, rfl, rfl, by simp [World.setRow], fun k _ hs => setRow_other w g k cs (fun e => hs (by rw [e]; exact hS))⟩
theorem Keeps.cell {S : Nat → Prop} {w w' : World} (h : Keeps S w w') {p : Addr} (hp : p.block < w.heap.size) (hs : ¬ S p.block) : w'.cell? p = w.cell? p :=
  World.cell?_of_block (w := w) (h.block p.block hp hs)
theorem Keeps.ofGrownBy {S : Nat → Prop} {w w' : World} {row : Option Nat} (h : w.grownBy w' row) (hS : ∀ k, row = some k → S k) : Keeps S w w' :=
  ⟨h.os, h.tape, h.output, h.size, fun k hk hs => h.block k hk (fun e => hs (hS k e.symm))⟩

/-- A block that is known whole; none of it is frozen. -/
def Blk (w : World) (b : Nat) (cs : List Value) (t : TypeId) : Prop := w.heap[b]? = some (.cells cs.toArray t (0, 0))

theorem Blk.lt {w : World} {b : Nat} {cs : List Value} {t : TypeId} (h : Blk w b cs t) : b < w.heap.size := (Array.getElem?_eq_some_iff.1 h).1
theorem Blk.cell {w : World} {b : Nat} {cs : List Value} {t : TypeId} (h : Blk w b cs t) {j : Nat} {v : Value} (hv : cs[j]? = some v) : w.cell? ⟨b, j, none⟩ = some v := by
  rw [cell_of_row w b j cs.toArray t (0, 0) h]; simpa using hv
theorem Blk.frozen {w : World} {b : Nat} {cs : List Value} {t : TypeId} (h : Blk w b cs t) (j : Nat) : w.frozen? ⟨b, j, none⟩ = false := frozen_of_row w b j cs.toArray t h
theorem Blk.keeps {S : Nat → Prop} {w w' : World} {b : Nat} {cs : List Value} {t : TypeId} (h : Blk w b cs t) (k : Keeps S w w') (hs : ¬ S b) : Blk w' b cs t :=
  (k.block b h.lt hs).trans h
theorem Blk.below {w w' : World} {B b : Nat} {cs : List Value} {t : TypeId} (h : Blk w b cs t) (k : Below B w w') (hb : b < B) : Blk w' b cs t :=
  (k.block b hb).trans h
theorem Blk.below' {w w' : World} {b : Nat} {cs : List Value} {t : TypeId} (h : Blk w b cs t) (k : Below w.heap.size w w') : Blk w' b cs t :=
  (k.block b h.lt).trans h
theorem Blk.alloc {w : World} {b : Nat} {cs : List Value} {t : TypeId} (h : Blk w b cs t) (o : Obj) : Blk (w.alloc o) b cs t :=
  (Below.heap_alloc w o b h.lt).trans h
theorem Blk.drewN {w : World} {b : Nat} {cs : List Value} {t : TypeId} (h : Blk w b cs t) (n : Nat) : Blk (w.drewN n) b cs t := h
theorem Blk.drew {w : World} {b : Nat} {cs : List Value} {t : TypeId} (h : Blk w b cs t) : Blk w.drew b cs t := h
theorem Blk.new (w : World) (cs : List Value) (t : TypeId) : Blk (w.alloc (.cells cs.toArray t)) w.heap.size cs t := heap_alloc_new w _
theorem Blk.setCell {w : World} {b : Nat} {cs : List Value} {t : TypeId} (h : Blk w b cs t) (i : Nat) (v : Value) : Blk (w.setCell ⟨b, i, none⟩ v) b (cs.set i v) t := by
  have := heap_setCell_same w b i cs.toArray t v h
  unfold Blk; rw [this]; simp
theorem Blk.setCellOther {w : World} {b : Nat} {cs : List Value} {t : TypeId} (h : Blk w b cs t) (a : Addr) (v : Value) (hne : b ≠ a.block) : Blk (w.setCell a v) b cs t :=
  (heap_setCell_other w a b v hne).trans h
theorem Blk.setRow {w : World} {b : Nat} {cs : List Value} {t : TypeId} (h : Blk w b cs t) (ds : List Value) : Blk (w.setRow b ds.toArray) b ds t :=
  setRow_heap w b cs.toArray _ t _ h
theorem Blk.setRowOther {w : World} {b g : Nat} {cs : List Value} {t : TypeId} (h : Blk w b cs t) (ds : Array Value) (hne : b ≠ g) : Blk (w.setRow g ds) b cs t :=
  (setRow_other w g b ds hne).trans h

theorem Blk.range {w : World} {b : Nat} {cs : List Value} {t : TypeId} (h : Blk w b cs t) : w.rangeAt b 0 cs := fun j v hv => by
  rw [Nat.zero_add]; exact h.cell hv
theorem rangeAt_drewN (w : World) (n b o : Nat) (cs : List Value) (h : w.rangeAt b o cs) : (w.drewN n).rangeAt b o cs := h

/-- A slice of n elements of 'size' cells each that reads as the cells cs, and lies in a block that is there. -/
def SlR (w : World) (v : Value) (size n : Nat) (cs : List Value) : Prop :=
  cs.length = n * size ∧ ∃ a c, v = .slice a n c ∧ (n = 0 ∨ ∃ b off, a = some ⟨b, off, none⟩ ∧ b < w.heap.size ∧ ∀ j u, cs[j]? = some u → w.cell? ⟨b, off + j, none⟩ = some u)

theorem add_none (b off j : Nat) : (⟨b, off, none⟩ : Addr).add j = ⟨b, off + j, none⟩ := by unfold Addr.add; split <;> simp_all

theorem run_loadCells_zero {P : Program} (w : World) (a : Addr) : (loadCells a 0).run P w = .ok #[] w := by simpa using run_loadCells_list (P := P) w a [] (by simp)

theorem SlR.first {P : Program} {w : World} {v : Value} {size n : Nat} {cs : List Value} (h : SlR w v size n cs) (m : Nat) (hm : m ≤ n) :
    (Builtin.firstCells size m v).run P w = .ok (cs.take (m * size)).toArray w := by
  obtain ⟨hl, a, c, rfl, h0⟩ := h
  have hk : m * size ≤ n * size := Nat.mul_le_mul_right _ hm
  rcases h0 with rfl | ⟨b, off, rfl, _, hc⟩
  · obtain rfl : m = 0 := by omega
    cases a <;> simp [Builtin.firstCells, run_loadCells_zero]
  · have := run_loadCells_list (P := P) w ⟨b, off, none⟩ (cs.take (m * size)) (fun j u hu => by
      rw [add_none]; refine hc j u ?_
      rw [List.getElem?_take] at hu; split at hu
      · exact hu
      · simp at hu)
    rw [List.length_take, Nat.min_eq_left (by omega)] at this
    simpa [Builtin.firstCells] using this
theorem SlR.lenOf {P : Program} {w : World} {v : Value} {size n : Nat} {cs : List Value} (h : SlR w v size n cs) : (Builtin.lenOf v).run P w = .ok n w := by
  obtain ⟨_, a, c, rfl, _⟩ := h; rfl
theorem SlR.keeps {S : Nat → Prop} {w w' : World} {v : Value} {size n : Nat} {cs : List Value} (h : SlR w v size n cs) (k : Keeps S w w')
    (hs : ∀ b off m c, v = .slice (some ⟨b, off, none⟩) m c → 0 < m → ¬ S b) : SlR w' v size n cs := by
  obtain ⟨hl, a, c, rfl, h0⟩ := h
  refine ⟨hl, a, c, rfl, ?_⟩
  rcases h0 with h0 | ⟨b, off, rfl, hb, hc⟩
  · exact .inl h0
  · by_cases hn : n = 0
    · exact .inl hn
    · exact .inr ⟨b, off, rfl, Nat.lt_of_lt_of_le hb k.size, fun j u hu => (k.cell (p := ⟨b, off + j, none⟩) hb (hs b off n c rfl (by omega))).trans (hc j u hu)⟩
theorem SlR.below {w w' : World} {v : Value} {size n : Nat} {cs : List Value} (h : SlR w v size n cs) (k : Below w.heap.size w w') : SlR w' v size n cs :=
  h.keeps (S := fun _ => False) (Keeps.ofBelow k) (fun _ _ _ _ _ _ h => h)
theorem SlR.drewN {w : World} {v : Value} {size n : Nat} {cs : List Value} (h : SlR w v size n cs) (m : Nat) : SlR (w.drewN m) v size n cs := h
theorem SlR.nil (w : World) (size c : Nat) (a : Option Addr) : SlR w (.slice a 0 c) size 0 [] := ⟨by simp, a, c, rfl, .inl rfl⟩
/-- Out of a block that is known whole. -/
theorem Blk.slr {w : World} {b : Nat} {cs : List Value} {t : TypeId} (h : Blk w b cs t) (off size n c : Nat) (hl : off + n * size ≤ cs.length) :
    SlR w (.slice (some ⟨b, off, none⟩) n c) size n ((cs.drop off).take (n * size)) := by
  refine ⟨by simp; omega, _, c, rfl, .inr ⟨b, off, rfl, h.lt, fun j u hu => h.cell ?_⟩⟩
  rw [List.getElem?_take] at hu; split at hu
  · rw [List.getElem?_drop] at hu; exact hu
  · simp at hu
theorem SlR.ofOwns {w : World} {base : Nat} {e : TypeId} {size n : Nat} {v : Value} {xs : List Value} (h : w.ownsRow base e size v n xs) : SlR w v size n xs := by
  obtain ⟨hl, h2⟩ := h
  rcases h2 with ⟨rfl, rfl⟩ | ⟨g, cap, cur, rfl, hbg, hg, hnc, hcm, hcs, htake⟩
  · exact ⟨by simpa using hl, none, 0, rfl, .inl rfl⟩
  · refine ⟨hl, _, cap, rfl, .inr ⟨g, 0, rfl, (Array.getElem?_eq_some_iff.1 hg).1, fun j u hu => ?_⟩⟩
    rw [Nat.zero_add, cell_of_row w g j cur _ _ hg]
    rw [← htake, List.getElem?_take] at hu; split at hu
    · simpa using hu
    · simp at hu
/-- copy at elements of any number of cells, into a block that is known whole. -/
theorem run_copyK {P : Program} {w : World} (dT sT ty elem : TypeId) (i0 : TypeInfo) (hu : P.underlying dT = some (.slice elem)) (hi : P.info? elem = some i0) (size : Nat) (hs : i0.size = size)
    {g : Nat} {cur : List Value} {t : TypeId} (hg : Blk w g cur t) (o dLen dCap : Nat) {v : Value} {n : Nat} {cs : List Value} (hv : SlR w v size n cs) (hn : n ≤ dLen)
    (hfit : o + n * size ≤ cur.length) (h1 : ∀ v ∈ cs, v.oneCell' = true) :
    (Builtin.copy_ #[dT, sT] ty #[.slice (some ⟨g, o, none⟩) dLen dCap, v]).run P w = .ok (goInt n) (w.setRow g (splice cur o cs).toArray) := by
  have hl := hv.1
  have hf := hv.first (P := P) n (Nat.le_refl _)
  rw [List.take_of_length_le (by omega)] at hf
  have hst := run_storeCells_at P g o t cs 0 cur.toArray w hg (by simpa [hl] using hfit) h1
  have hlen := hv.lenOf (P := P)
  simp [Builtin.copy_, run_underlying hu, sizeOf, typeInfo, hlen, Nat.min_eq_left hn, hs, hf, hst, splice, hi]

/-- append where there is room, in a block that is known whole. -/
theorem run_appendRoomK {P : Program} {w : World} (t sT ty elem : TypeId) (i0 : TypeInfo) (hu : P.underlying t = some (.slice elem)) (hi : P.info? elem = some i0) (size : Nat) (hs : i0.size = size)
    (hsT : P.underlying sT = some (.slice elem))
    {g : Nat} {cur : List Value} {tt : TypeId} (hg : Blk w g cur tt) (o len cap : Nat) {v : Value} {n : Nat} {cs : List Value} (hv : SlR w v size n cs) (hn : len + n ≤ cap)
    (hfit : o + len * size + n * size ≤ cur.length) (h1 : ∀ v ∈ cs, v.oneCell' = true) :
    (Builtin.append_ #[t, sT] ty #[.slice (some ⟨g, o, none⟩) len cap, v]).run P w = .ok (.slice (some ⟨g, o, none⟩) (len + n) cap) (w.setRow g (splice cur (o + len * size) cs).toArray) := by
  have hl := hv.1
  have hf := hv.first (P := P) n (Nat.le_refl _)
  rw [List.take_of_length_le (by omega)] at hf
  have hst := run_storeCells_at P g (o + len * size) tt cs 0 cur.toArray w hg (by simpa [hl] using hfit) h1
  have hlen := hv.lenOf (P := P)
  simp [Builtin.append_, run_underlying hu, run_underlying hsT, sizeOf, typeInfo, hlen, hn, hs, hf, hst, splice, hi, add_none]

theorem run_max_int {P : Program} (ts : Array TypeId) (t : TypeId) (k k' : IntKind) (a b : Int) (w : World) :
    (Builtin.max_ ts t #[.int k a, .int k' b]).run P w = .ok (.int k (max a b)) w := by
  have : (if b > a then b else a) = max a b := by split <;> omega
  simp only [Builtin.max_, List.foldlM_cons, List.foldlM_nil, Builtin.max2, this]; rfl
theorem run_min_int {P : Program} (ts : Array TypeId) (t : TypeId) (k k' : IntKind) (a b : Int) (w : World) :
    (Builtin.min_ ts t #[.int k a, .int k' b]).run P w = .ok (.int k (min a b)) w := by
  have : (if b < a then b else a) = min a b := by split <;> omega
  simp only [Builtin.min_, List.foldlM_cons, List.foldlM_nil, Builtin.min2, this]; rfl
section
variable {P : Program} {ops : Array Oper} {rest : List Oper} {o : Oper} {a : Act} {w : World} {Q : Exit → Act → World → Prop} {K : Act → World → Prop} {E : Prop}
/- A builtin whose run is known, as a step of the walk; as a step of a region that draws. -/
theorem wpList_runCopy (hgd : o.guard = none) (x y : Operand) (t u : TypeId) (ho : o.op = .call { callee := .builtin .copy, args := #[x, y], argTypes := #[t, u] })
    (v : Value) (w' : World) (hrun : (Builtin.copy_ #[t, u] o.type #[a.eval x, a.eval y]).run P w = .ok v w') (h : wpList P ops Q rest (a.put o.dst v) w') : wpList P ops Q (o :: rest) a w := by
  refine wpList_plain hgd fun K hK => ?_
  unfold Oper.wp
  simp [execOp, ho, resolve, invoke, builtin, hrun, Result.andThen]
  exact hK _ _ h
theorem step_runCopy (hgd : o.guard = none) (x y : Operand) (t u : TypeId) (ho : o.op = .call { callee := .builtin .copy, args := #[x, y], argTypes := #[t, u] })
    (v : Value) (w' : World) (hrun : (Builtin.copy_ #[t, u] o.type #[a.eval x, a.eval y]).run P w = .ok v w') (h : K (a.put o.dst v) w') :
    if Region.wanted o (yielded ops a.tmps) = true then Oper.wp P o a w K Q else E := by
  have hw : Region.wanted o (yielded ops a.tmps) = true := by simp [Region.wanted, hgd]
  rw [if_pos hw]
  unfold Oper.wp
  simp [execOp, ho, resolve, invoke, builtin, hrun, Result.andThen]
  exact h
theorem wpList_runAppend (hgd : o.guard = none) (x y : Operand) (t u : TypeId) (ho : o.op = .call { callee := .builtin .append, args := #[x, y], argTypes := #[t, u] })
    (v : Value) (w' : World) (hrun : (Builtin.append_ #[t, u] o.type #[a.eval x, a.eval y]).run P w = .ok v w') (h : wpList P ops Q rest (a.put o.dst v) w') : wpList P ops Q (o :: rest) a w := by
  refine wpList_plain hgd fun K hK => ?_
  unfold Oper.wp
  simp [execOp, ho, resolve, invoke, builtin, hrun, Result.andThen]
  exact hK _ _ h
theorem step_runAppend (hgd : o.guard = none) (x y : Operand) (t u : TypeId) (ho : o.op = .call { callee := .builtin .append, args := #[x, y], argTypes := #[t, u] })
    (v : Value) (w' : World) (hrun : (Builtin.append_ #[t, u] o.type #[a.eval x, a.eval y]).run P w = .ok v w') (h : K (a.put o.dst v) w') :
    if Region.wanted o (yielded ops a.tmps) = true then Oper.wp P o a w K Q else E := by
  have hw : Region.wanted o (yielded ops a.tmps) = true := by simp [Region.wanted, hgd]
  rw [if_pos hw]
  unfold Oper.wp
  simp [execOp, ho, resolve, invoke, builtin, hrun, Result.andThen]
  exact h
theorem wpList_runMax (hgd : o.guard = none) (x y : Operand) (t u : TypeId) (ho : o.op = .call { callee := .builtin .max, args := #[x, y], argTypes := #[t, u] })
    (v : Value) (w' : World) (hrun : (Builtin.max_ #[t, u] o.type #[a.eval x, a.eval y]).run P w = .ok v w') (h : wpList P ops Q rest (a.put o.dst v) w') : wpList P ops Q (o :: rest) a w := by
  refine wpList_plain hgd fun K hK => ?_
  unfold Oper.wp
  simp [execOp, ho, resolve, invoke, builtin, hrun, Result.andThen]
  exact hK _ _ h
theorem wpList_runMin (hgd : o.guard = none) (x y : Operand) (t u : TypeId) (ho : o.op = .call { callee := .builtin .min, args := #[x, y], argTypes := #[t, u] })
    (v : Value) (w' : World) (hrun : (Builtin.min_ #[t, u] o.type #[a.eval x, a.eval y]).run P w = .ok v w') (h : wpList P ops Q rest (a.put o.dst v) w') : wpList P ops Q (o :: rest) a w := by
  refine wpList_plain hgd fun K hK => ?_
  unfold Oper.wp
  simp [execOp, ho, resolve, invoke, builtin, hrun, Result.andThen]
  exact hK _ _ h
theorem wpList_runClear (hgd : o.guard = none) (x : Operand) (t : TypeId) (ho : o.op = .call { callee := .builtin .clear, args := #[x], argTypes := #[t] })
    (v : Value) (w' : World) (hrun : (Builtin.clear_ #[t] o.type #[a.eval x]).run P w = .ok v w') (h : wpList P ops Q rest (a.put o.dst v) w') : wpList P ops Q (o :: rest) a w := by
  refine wpList_plain hgd fun K hK => ?_
  unfold Oper.wp
  simp [execOp, ho, resolve, invoke, builtin, hrun, Result.andThen]
  exact hK _ _ h
end
theorem Below.alloc1 (w : World) (o : Obj) : Below w.heap.size w (w.alloc o) := (Below.refl _ _).alloc (Nat.le_refl _) _
theorem Keeps.transNew {S T : Nat → Prop} {a b c : World} (h : Keeps S a b) (k : Keeps T b c) (hT : ∀ k, k < a.heap.size → T k → S k) : Keeps S a c :=
  ⟨k.os.trans h.os, k.tape.trans h.tape, k.output.trans h.output, Nat.le_trans h.size k.size,
   fun i hi hs => (k.block i (Nat.lt_of_lt_of_le hi h.size) (fun x => hs (hT i hi x))).trans (h.block i hi hs)⟩
theorem run_clearK {P : Program} {w : World} (t ty elem : TypeId) (i0 : TypeInfo) (z : Value) (hu : P.underlying t = some (.slice elem)) (hi : P.info? elem = some i0) (hz : i0.zero = some z)
    {g : Nat} {cur : List Value} {tt : TypeId} (hg : Blk w g cur tt) (o n c : Nat) (hfit : o + (Builtin.zeroCells z.cells n).size ≤ cur.length) (h1 : ∀ v ∈ (Builtin.zeroCells z.cells n).toList, v.oneCell' = true) :
    ∃ ds : List Value, (Builtin.clear_ #[t] ty #[.slice (some ⟨g, o, none⟩) n c]).run P w = .ok (.tuple #[]) (w.setRow g ds.toArray) ∧ ds.take o = cur.take o ∧ ds.length = cur.length := by
  cases n with
  | zero =>
    refine ⟨cur, ?_, rfl, rfl⟩
    rw [setRow_self w g cur.toArray tt (0, 0) hg]
    simp [Builtin.clear_, run_underlying hu]
  | succ n =>
    have hst := run_storeCells_at P g o tt (Builtin.zeroCells z.cells (n + 1)).toList 0 cur.toArray w hg (by simpa using hfit) h1
    refine ⟨cur.take o ++ (Builtin.zeroCells z.cells (n + 1)).toList ++ cur.drop (o + (Builtin.zeroCells z.cells (n + 1)).toList.length), ?_, ?_, ?_⟩
    · simp [Builtin.clear_, run_underlying hu, zeroValue, typeInfo, hi, hz, hst]
    · have ho : o ≤ cur.length := by omega
      simp [ho]
    · simp only [List.length_append, List.length_take, List.length_drop, Array.length_toList]
      omega
theorem take_at {P : Program} {ops : Array Oper} {Q : Exit → Act → World → Prop} {md : Region.Mode} {S : World → Prop} (i : Nat) (d : Option Tmp) (v : Value) {oi : Oper} {fuel : Nat} {listed : Array Bool} {a : Act} {w : World} (hi : ops[i]? = some oi) (hd : oi.dst = d)
    (hs : Region.noSelect ops = true) (hf : Region.free md ops listed i = true) (hr : (Region.ready md ops listed).contains i = true)
    (hQ : ∀ c a w, Q (.panic c) (a.put oi.dst v) w → Q (.panic c) a w) (hy : YieldsIf P ops S oi v a) (hS : S w)
    (h : wpAnyH P md ops Q S fuel (listed.setIfInBounds i true) (a.put d v) w) : wpAnyH P md ops Q S (fuel + 1) listed a w := by
  subst hd; exact wpAnyH_take hi hs hf hr hQ hy hS h
theorem call_atG {P : Program} {ops : Array Oper} {Q : Exit → Act → World → Prop} (d : Option Tmp) {i : Nat} {o : Oper} {K : Act → World → Prop} {a : Act} {w : World} (ho : ops[i]? = some o) (hg : Region.wanted o (yielded ops a.tmps) = true) (hd : o.dst = d) (f : FuncId) (args : Array Value) (hrun : (execOp a.eval o).run P w = .ok (.enter f args) w)
    (h : Calls P f args w fun e w'' => ∃ v, e = .returned v ∧ K (a.put d v) w'') : wpOp P ops Q i K a w := by
  subst hd
  unfold wpOp
  rw [ho]
  simp only [hg, if_true]
  refine .inl ?_
  unfold Oper.wp
  rw [hrun, Oper.upon_enter]
  exact h.mono fun e w'' ⟨v, he, hk⟩ => by subst he; exact hk
theorem run_at {P : Program} {ops : Array Oper} {Q : Exit → Act → World → Prop} (d : Option Tmp) {i : Nat} {o : Oper} {K : Act → World → Prop} {a : Act} {w w' : World} (v : Value) (ho : ops[i]? = some o) (hg : Region.wanted o (yielded ops a.tmps) = true) (hd : o.dst = d)
    (hrun : (execOp a.eval o).run P w = .ok (.value v) w') (h : K (a.put d v) w') : wpOp P ops Q i K a w := by
  subst hd
  unfold wpOp
  rw [ho]
  simp only [hg, if_true]
  refine .inl ?_
  unfold Oper.wp
  rw [hrun]
  exact h
theorem skip_at {P : Program} {ops : Array Oper} {Q : Exit → Act → World → Prop} {i : Nat} {o : Oper} {K : Act → World → Prop} {a : Act} {w w' : World} (ho : ops[i]? = some o) (hg : Region.wanted o (yielded ops a.tmps) = true)
    (hrun : (execOp a.eval o).run P w = .ok .skip w') (h : K (a.put o.dst undef) w') : wpOp P ops Q i K a w := by
  unfold wpOp
  rw [ho]
  simp only [hg, if_true]
  refine .inl ?_
  unfold Oper.wp
  rw [hrun]
  exact h
theorem run_appendOp {P : Program} {w w' : World} {ρ : Operand → Value} {o : Oper} (x y : Operand) (t u : TypeId) (ho : o.op = .call { callee := .builtin .append, args := #[x, y], argTypes := #[t, u] }) (v : Value)
    (hrun : (Builtin.append_ #[t, u] o.type #[ρ x, ρ y]).run P w = .ok v w') : (execOp ρ o).run P w = .ok (.value v) w' := by
  simp [execOp, ho, resolve, invoke, builtin, hrun, Result.andThen]
theorem wpList_load_rowG {P : Program} {ops : Array Oper} {rest : List Oper} {o : Oper} {a : Act} {w : World} {Q : Exit → Act → World → Prop} (hgd : Region.wanted o (yielded ops a.tmps) = true) (ty : TypeId) (x : Operand) (ho : o.op = .load ty x)
    (g : Nat) (hx : a.eval x = .pointer (some ⟨g, 0, none⟩)) (t : TypeId) (cs : Array Value) (fr : Nat × Nat) (d : TypeDesc) (hg : w.heap[g]? = some (.cells cs t fr))
    (hu : P.underlying ty = some d) (hd : (match d with | .struct _ | .array _ _ => true | _ => false) = true) (hi : (P.info? ty).map (·.size) = some cs.size)
    (h : wpList P ops Q rest (a.put o.dst (.agg cs)) w) : wpList P ops Q (o :: rest) a w := by
  unfold wpList
  rw [if_pos hgd]
  exact .inl (wp_load_row ty x ho g hx t cs fr d hg hu hd hi h)
theorem wpList_store_rowTo {P : Program} {ops : Array Oper} {rest : List Oper} {o : Oper} {a : Act} {w : World} {Q : Exit → Act → World → Prop} (w' : World) (hgd : o.guard = none) (ty : TypeId) (x y : Operand) (ho : o.op = .store ty x y)
    (g : Nat) (cells : Array Value) (hx : a.eval x = .pointer (some ⟨g, 0, none⟩)) (hy : a.eval y = .agg cells)
    (t : TypeId) (old : Array Value) (hg : w.heap[g]? = some (.cells old t (0, 0))) (hi : (P.info? ty).map (·.size) = some cells.size)
    (hold : old.size = cells.size) (h1 : cells.all (·.oneCell') = true) (hw : w.setRow g cells = w')
    (h : wpList P ops Q rest (a.put o.dst undef) w') : wpList P ops Q (o :: rest) a w := by
  subst hw; exact wpList_store_row hgd ty x y ho g cells hx hy t old hg hi hold h1 h
theorem wpList_runMake {P : Program} {ops : Array Oper} {rest : List Oper} {o : Oper} {a : Act} {w : World} {Q : Exit → Act → World → Prop} (hgd : o.guard = none) (x y : Operand) (t : TypeId) (ho : o.op = .makeSlice t x y)
    (v : Value) (w' : World) (hrun : (Instr.makeSlice t (a.eval x) (a.eval y)).run P w = .ok v w') (h : wpList P ops Q rest (a.put o.dst v) w') : wpList P ops Q (o :: rest) a w := by
  refine wpList_plain hgd fun K hK => ?_
  unfold Oper.wp
  simp [execOp, ho, hrun, Result.andThen]
  exact hK _ _ h
theorem results_cell_bool {P : Program} {fn : Func} {p : Tmp} {ty : TypeId} (h : fn.results = #[.cell p ty]) (tmps : Array Value) (w : World) (g : Nat) (v : Value) (d : TypeDesc)
    (hp : tmps.getD p undef = .pointer (some ⟨g, 0, none⟩)) (hc : w.cell? ⟨g, 0, none⟩ = some v) (hu : P.underlying ty = some d) (hd : (match d with | .struct _ | .array _ _ => true | _ => false) = false) :
    (results fn tmps).run P w = .ok v w := by
  have hp' : tmps[p]?.getD undef = .pointer (some ⟨g, 0, none⟩) := by simpa using hp
  have ha : (isAgg ty).run P w = .ok false w := by
    cases d <;> simp_all [isAgg, run_underlying hu]
  simp [results, h, hp', asAddr, loadVar, ha, run_load, hc]
/-- A load of a whole array or struct out of the cells of a block, wherever in it. -/
theorem run_loadVar_part {P : Program} (w : World) (b off : Nat) (ty : TypeId) (cs : List Value) (d : TypeDesc) (hc : ∀ j u, cs[j]? = some u → w.cell? ⟨b, off + j, none⟩ = some u)
    (hu : P.underlying ty = some d) (hd : (match d with | .struct _ | .array _ _ => true | _ => false) = true) (hi : (P.info? ty).map (·.size) = some cs.toArray.size) :
    (loadVar ty ⟨b, off, none⟩).run P w = .ok (.agg cs.toArray) w := by
  have hl : (loadCells ⟨b, off, none⟩ cs.length).run P w = .ok cs.toArray w :=
    run_loadCells_list (P := P) w ⟨b, off, none⟩ cs (fun j v hv => by rw [add_none]; exact hc j v hv)
  cases hq : P.info? ty with
  | none => simp [hq] at hi
  | some i =>
    have hs : i.size = cs.length := by simpa [hq] using hi
    have hagg : (isAgg ty).run P w = .ok true w := by
      unfold isAgg
      rw [Sem.run_bind, run_underlying hu w]
      cases d <;> simp_all [Result.andThen]
    simp [loadVar, hagg, sizeOf, typeInfo, hq, hs, hl, Result.andThen]
theorem run_load_part {P : Program} {w : World} {b off : Nat} {cs : List Value} (hc : ∀ j u, cs[j]? = some u → w.cell? ⟨b, off + j, none⟩ = some u) (ty : TypeId) (d : TypeDesc) (hu : P.underlying ty = some d)
    (hd : (match d with | .struct _ | .array _ _ => true | _ => false) = true) (hi : (P.info? ty).map (·.size) = some cs.toArray.size) (ρ : Operand → Value) (o : Oper) (x : Operand) (ho : o.op = .load ty x) (hx : ρ x = .pointer (some ⟨b, off, none⟩)) :
    (execOp ρ o).run P w = .ok (.value (.agg cs.toArray)) w := by
  unfold execOp
  simp only [ho, hx, Instr.loadAt, Instr.sureAddr, Sem.run_bind, Sem.run_pure, Result.andThen_ok, run_loadVar_part w b off ty cs d hc hu hd hi]
theorem wpList_load_part {P : Program} {ops : Array Oper} {rest : List Oper} {o : Oper} {a : Act} {w : World} {Q : Exit → Act → World → Prop} (hgd : Region.wanted o (yielded ops a.tmps) = true) (ty : TypeId) (x : Operand) (ho : o.op = .load ty x)
    (b off : Nat) (hx : a.eval x = .pointer (some ⟨b, off, none⟩)) (cs : List Value) (hc : ∀ j u, cs[j]? = some u → w.cell? ⟨b, off + j, none⟩ = some u) (d : TypeDesc)
    (hu : P.underlying ty = some d) (hd : (match d with | .struct _ | .array _ _ => true | _ => false) = true) (hi : (P.info? ty).map (·.size) = some cs.toArray.size)
    (h : wpList P ops Q rest (a.put o.dst (.agg cs.toArray)) w) : wpList P ops Q (o :: rest) a w := by
  unfold wpList
  rw [if_pos hgd]
  refine .inl ?_
  unfold Oper.wp
  rw [run_load_part hc ty d hu hd hi a.eval o x ho hx]
  exact h
theorem Blk.part {w : World} {b : Nat} {cs : List Value} {t : TypeId} (h : Blk w b cs t) (off : Nat) (ds : List Value) (hd : (cs.drop off).take ds.length = ds) : ∀ j u, ds[j]? = some u → w.cell? ⟨b, off + j, none⟩ = some u := fun j u hu => h.cell (by
  rw [← hd, List.getElem?_take] at hu; split at hu
  · rw [List.getElem?_drop] at hu; exact hu
  · cases hu)
end Go.Proofs.Ytpiijfknpliahaa
