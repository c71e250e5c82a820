/- The document's directory in memory, and the contracts of its New, Bucket, Tag. F is any set of blocks that holds every block of it and every block yet to be made. Conditions: the key reads as bytes. -/
import Derived.Test.YthekkddmbomimaaGet
namespace Go.Proofs.Ythekkddmbomimaa
open Go.RowKit
set_option maxRecDepth 100000
attribute [local go_sem] Oper.semAt_some

structure RefOwn (F : Nat → Prop) (w : World) (q ql : Nat) (L : List (List En)) (vs : List Value) : Prop where
  len : vs.length = L.length
  own : ∀ (i : Nat) (v : Value) (l : List En), vs[i]? = some v → L[i]? = some l → SlOwn w v 55 4 l.length (cellsE l)
  apart : ∀ (i j : Nat) (u v : Value) (g : Nat), vs[i]? = some u → vs[j]? = some v → blkOf u = some g → blkOf v = some g → i = j
  far : ∀ (i : Nat) (v : Value) (g : Nat), vs[i]? = some v → blkOf v = some g → F g ∧ g ≠ q ∧ g ≠ ql
structure RefAt (F : Nat → Prop) (w : World) (q ql s : Nat) (L : List (List En)) : Prop where
  s1 : 1 ≤ s
  s16 : s ≤ 16
  b1 : 1 ≤ L.length
  b4 : L.length ≤ 4096
  ne : q ≠ ql
  fq : F q
  fl : F ql
  head : Blk w q [.slice (some ⟨ql, 0, none⟩) L.length L.length, .int .i64 s] 72
  list : ∃ vs, Blk w ql vs 45 ∧ RefOwn F w q ql L vs
  ok : ∀ l ∈ L, ∀ e ∈ l, e.ok
  le : ∀ l ∈ L, l.length ≤ s
theorem RefAt.keeps {F S : Nat → Prop} {w w' : World} {q ql s : Nat} {L : List (List En)} (h : RefAt F w q ql s L) (k : Keeps S w w') (hS : ∀ k, F k → ¬ S k) : RefAt F w' q ql s L := by
  obtain ⟨vs, h1, h2⟩ := h.list
  exact ⟨h.s1, h.s16, h.b1, h.b4, h.ne, h.fq, h.fl, h.head.keeps k (hS _ h.fq), ⟨vs, h1.keeps k (hS _ h.fl), h2.len, fun i v l hv hl => (h2.own i v l hv hl).keeps k (fun b hb => hS _ (h2.far i v b hv hb).1), h2.apart, h2.far⟩, h.ok, h.le⟩
theorem RefAt.below {F : Nat → Prop} {w w' : World} {q ql s : Nat} {L : List (List En)} (h : RefAt F w q ql s L) (k : Below w.heap.size w w') : RefAt F w' q ql s L :=
  h.keeps (S := fun _ => False) (Keeps.ofBelow k) (fun _ _ h => h)
theorem RefAt.lts {F : Nat → Prop} {w : World} {q ql s : Nat} {L : List (List En)} (h : RefAt F w q ql s L) : q < w.heap.size ∧ ql < w.heap.size := by
  obtain ⟨vs, h1, _⟩ := h.list; exact ⟨h.head.lt, h1.lt⟩

theorem wpList_runMake {P : Program} {ops : Array Oper} {rest : List Oper} {o : Oper} {a : Act} {w : World} {Q : Exit → Act → World → Prop} (hgd : o.guard = none) (x y : Operand) (t : TypeId) (ho : o.op = .makeSlice t x y)
    (v : Value) (w' : World) (hrun : (Instr.makeSlice t (a.eval x) (a.eval y)).run P w = .ok v w') (h : wpList P ops Q rest (a.put o.dst v) w') : wpList P ops Q (o :: rest) a w := by
  refine wpList_plain hgd fun K hK => ?_
  unfold Oper.wp
  simp [execOp, ho, hrun, Result.andThen]
  exact hK _ _ h
theorem info45 : (Try.prog.info? 45).map (fun i => (i.zero, i.size, i.bytes)) = some (some (.slice none 0 0), 1, 24) := by kernel_rfl
theorem made45 (n : Nat) : madeCells (Value.slice none 0 0).cells (n * 1) = (List.replicate n (Value.slice none 0 0)).toArray := by
  apply Array.ext'
  rw [Nat.mul_one]; exact toList_madeCells_one _ _
theorem refOwn_new (F : Nat → Prop) (w : World) (q ql B : Nat) : RefOwn F w q ql (List.replicate B []) (List.replicate B (.slice none 0 0)) := by
  have hv : ∀ {i : Nat} {v : Value}, (List.replicate B (Value.slice none 0 0))[i]? = some v → v = .slice none 0 0 := fun h => (List.mem_replicate.1 (List.mem_of_getElem? h)).2
  refine ⟨by simp, fun i v l h1 h2 => ?_, fun i j u v g h1 h2 h3 _ => ?_, fun i v g h1 h2 => ?_⟩
  · obtain rfl := hv h1
    obtain rfl : l = [] := (List.mem_replicate.1 (List.mem_of_getElem? h2)).2
    exact SlOwn.nil _ _ _
  · obtain rfl := hv h1; simp [blkOf] at h3
  · obtain rfl := hv h1; simp [blkOf] at h2

set_option maxHeartbeats 2000000 in
theorem New_ref (F : Nat → Prop) (w : World) (hF : ∀ k, w.heap.size ≤ k → F k) (b s : Int) :
    Calls Try.prog 15 #[.int .i64 b, .int .i64 s] w fun e w' => ∃ q ql, e = .returned (.pointer (some ⟨q, 0, none⟩)) ∧ RefAt F w' q ql (clampN s 1 16) (List.replicate (clampN b 1 4096) []) ∧ Below w.heap.size w w' := by
  have eB : min (max b 1) 4096 = ((clampN b 1 4096 : Nat) : Int) := by unfold clampN; omega
  have eS : min (max s 1) 16 = ((clampN s 1 16 : Nat) : Int) := by unfold clampN; omega
  have hB1 := clampN_ge b 1 4096 (by omega)
  have hB2 := clampN_le b 1 4096
  have hS1 := clampN_ge s 1 16 (by omega)
  have hS2 := clampN_le s 1 16
  generalize clampN b 1 4096 = B at *
  generalize clampN s 1 16 = S at *
  obtain ⟨i1, hi1, hz1, hs1, hb1⟩ := info_parts info45
  have mk2 : ∀ W : World, (Instr.makeSlice 70 (.int .i64 B) (.int .i64 B)).run Try.prog W = .ok (.slice (some ⟨W.heap.size, 0, none⟩) B B) (W.alloc (.cells (List.replicate B (Value.slice none 0 0)).toArray 45)) := fun W => by
    have := run_make (P := Try.prog) (w := W) 70 45 i1 _ Try.underlying70 hi1 hz1 .i64 .i64 B B (by omega) (by omega) (by rw [hb1]; omega) (by omega)
    rw [hs1, Int.toNat_natCast, made45] at this; exact this
  obtain ⟨M2, hM2⟩ : ∃ M2, (List.replicate B (Value.slice none 0 0)).toArray = M2 := ⟨_, rfl⟩
  rw [hM2] at mk2
  have HMK := Lib.hid mk2
  clear mk2
  have HB := Lib.hid eB
  have HS := Lib.hid eS
  have H2 := Lib.hid hM2
  have HF := Lib.hid hF
  clear eB eS hM2 hF
  go_enter Try.func15, Try.ntmps15
  go_wp2_with (first
    | (refine wpList_runMax rfl (.tmp 5) _ 3 3 rfl _ _ (run_max_int _ _ _ _ b 1 _) ?_)
    | (refine wpList_runMin rfl (.tmp 6) _ 3 3 rfl (.int .i64 B) _ (by rw [← HB.out]; exact run_min_int _ _ _ _ (max b 1) 4096 _) ?_)
    | (refine wpList_runMax rfl (.tmp 9) _ 3 3 rfl _ _ (run_max_int _ _ _ _ s 1 _) ?_)
    | (refine wpList_runMin rfl (.tmp 10) _ 3 3 rfl (.int .i64 S) _ (by rw [← HS.out]; exact run_min_int _ _ _ _ (max s 1) 16 _) ?_)
    | (refine wpList_runMake rfl (.tmp 7) (.tmp 7) 70 rfl (.slice (some ⟨w.heap.size, 0, none⟩) B B) (w.alloc (.cells M2 45)) (by exact HMK.out w) ?_))
  go_ret
  have h1 : Blk ((w.alloc (.cells M2 45)).alloc (.cells #[.slice (some ⟨w.heap.size, 0, none⟩) B B, .int .i64 S] 72)) w.heap.size (List.replicate B (.slice none 0 0)) 45 := by
    rw [← H2.out]; exact (Blk.new w _ 45).alloc _
  have h2 : Blk ((w.alloc (.cells M2 45)).alloc (.cells #[.slice (some ⟨w.heap.size, 0, none⟩) B B, .int .i64 S] 72)) (w.heap.size + 1) [.slice (some ⟨w.heap.size, 0, none⟩) B B, .int .i64 S] 72 := by
    have := Blk.new (w.alloc (.cells M2 45)) [.slice (some ⟨w.heap.size, 0, none⟩) B B, .int .i64 S] 72
    rwa [World.size_alloc] at this
  refine ⟨w.heap.size + 1, w.heap.size, rfl, ⟨hS1, hS2, by simpa using hB1, by simpa using hB2, by omega, HF.out _ (by omega), HF.out _ (by omega), by simpa using h2, ⟨_, h1, refOwn_new _ _ _ _ _⟩, fun l hl e he => ?_, fun l hl => ?_⟩, ((Below.refl _ w).alloc (Nat.le_refl _) _).alloc (by simp) _⟩
  · obtain rfl : l = [] := (List.mem_replicate.1 hl).2
    cases he
  · obtain rfl : l = [] := (List.mem_replicate.1 hl).2
    simp
set_option maxHeartbeats 400000 in
theorem Tag_ref {ks : List Value} {n t : Nat} (hk : IsKey ks n t) (w : World) :
    Calls Try.prog 12 #[.agg ks.toArray] w fun e w' => e = .returned (.int .u16 t) ∧ Below w.heap.size w w' := by
  obtain ⟨a, b, c, d, x, y, -, -, -, -, h4, h5, -, -, -, -, hx', hy', -, rfl, hl, -⟩ := hk
  have hg : ∀ (j z : Nat), [x, y][j]? = some z → (w.alloc (.cells ks.toArray 23)).cell? ⟨w.heap.size, 4 + j, none⟩ = some (.int .u8 z) := fun j z hz => by
    match j, hz with
    | 0, hz => obtain rfl : x = z := by simpa using hz
               exact (Blk.new w ks 23).cell h4
    | 1, hz => obtain rfl : y = z := by simpa using hz
               exact (Blk.new w ks 23).cell h5
    | j + 2, hz => simp at hz
  have hcall := Get_any (w.alloc (.cells ks.toArray 23)) w.heap.size 4 28 [x, y] (by simp; omega) (by simp) hg
  have eN : beN [x, y] = x * 256 + y := by simp [beN]
  rw [eN] at hcall
  have hN : x * 256 + y < 65536 := by omega
  generalize x * 256 + y = N at *
  have e1 : bits .and .u16 (N : Int) 4095 = ((N % 4096 : Nat) : Int) := by rw [u16_and4095 (by omega) (by omega)]; omega
  have e2 : IntKind.u16.wrap (N : Int) = (N : Int) := by rw [IntKind.wrap_u16]; omega
  have e3 : (N : Int) % 65536 = (N : Int) := by omega
  have HC := Lib.hid hcall
  have HL := Lib.hid hl
  clear hcall hg hl h4 h5 eN
  go_enter Try.func12, Try.ntmps12
  go_wp2_with fail
  refine HC.out.mono ?_
  rintro e w1 ⟨rfl, rfl⟩
  go_wp2
  go_ret
  exact ⟨by simp, Below.alloc1 _ _⟩
set_option maxHeartbeats 800000 in
theorem Bucket_ref {ks : List Value} {n t : Nat} (hk : IsKey ks n t) (w : World) (q B C : Nat) (a : Option Addr) (hq : q < w.heap.size) (hB : 1 ≤ B) (hB' : B ≤ 4096) (hn : w.cell? ⟨q, 0, none⟩ = some (.slice a B C)) :
    Calls Try.prog 16 #[.pointer (some ⟨q, 0, none⟩), .agg ks.toArray] w fun e w' => e = .returned (.int .i64 (n % B : Nat)) ∧ Below w.heap.size w w' := by
  obtain ⟨k0, k1, k2, k3, x, y, h0, h1, h2, h3, -, -, hx0, hx1, hx2, hx3, -, -, rfl, -, -, -⟩ := hk
  have hg : ∀ (j z : Nat), [k0, k1, k2, k3][j]? = some z → (w.alloc (.cells ks.toArray 23)).drew.cell? ⟨w.heap.size, 0 + j, none⟩ = some (.int .u8 z) := fun j z hz => by
    match j, hz with
    | 0, hz => obtain rfl : k0 = z := by simpa using hz
               exact (Blk.new w ks 23).cell h0
    | 1, hz => obtain rfl : k1 = z := by simpa using hz
               exact (Blk.new w ks 23).cell h1
    | 2, hz => obtain rfl : k2 = z := by simpa using hz
               exact (Blk.new w ks 23).cell h2
    | 3, hz => obtain rfl : k3 = z := by simpa using hz
               exact (Blk.new w ks 23).cell h3
    | j + 4, hz => simp at hz
  have hcall := Get_any (w.alloc (.cells ks.toArray 23)).drew w.heap.size 0 32 [k0, k1, k2, k3] (by simp; omega) (by simp) hg
  have eN : beN [k0, k1, k2, k3] = ((k0 * 256 + k1) * 256 + k2) * 256 + k3 := by simp [beN]
  rw [eN] at hcall
  have hN : ((k0 * 256 + k1) * 256 + k2) * 256 + k3 < 4294967296 := by omega
  generalize ((k0 * 256 + k1) * 256 + k2) * 256 + k3 = N at *
  have hc : (w.alloc (.cells ks.toArray 23)).drew.cell? ⟨q, 0, none⟩ = some (.slice a B C) := (Below.cell (p := ⟨q, 0, none⟩) (Below.alloc1 w (.cells ks.toArray 23)) hq).trans hn
  have e1 : IntKind.u64.wrap (B : Int) = (B : Int) := by rw [IntKind.wrap_u64]; omega
  have hm : N % B < B := Nat.mod_lt _ (by omega)
  have e2 : (N : Int).tmod (B : Int) = ((N % B : Nat) : Int) := by rw [Int.tmod_eq_emod_of_nonneg (by omega)]; simp
  have e3 : IntKind.i64.wrap ((N % B : Nat) : Int) = ((N % B : Nat) : Int) := by rw [IntKind.wrap_i64]; omega
  have e4 : ((B : Int) == 0) = false := beq_eq_false_iff_ne.2 (by omega)
  have e5 : ¬ B = 0 := by omega
  generalize N % B = M at *
  have HC := Lib.hid hcall
  clear hcall hg h0 h1 h2 h3 eN hn
  go_enter Try.func16, Try.ntmps16
  go_wp2
  go_region_held3 (fun w' => w'.cell? ⟨q, 0, none⟩ = some (.slice a B C)) (assumption)
    (first
      | (go_at_call 36; refine HC.out.mono ?_; rintro e w1 ⟨rfl, rfl⟩))
  go_wp2
  go_ret
  refine ⟨?_, (Below.alloc1 _ _).drew⟩
  simp only [Array.getD, List.size_toArray, List.length_cons, List.length_nil]
  simp
end Go.Proofs.Ythekkddmbomimaa
