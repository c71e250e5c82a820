/- Contracts of the directory's inner functions: Tag, Bucket, bucket, lay: what each returns, and which blocks it turns. Conditions: the receiver is a directory in memory. -/
import Derived.Test.YthekkddmbomimaaProg
import Derived.Test.YthekkddmbomimaaBase
import Derived.Lib.EndianBits
import Derived.Lib.Hide
import Derived.Deep.RegionHeld3
import Derived.Deep.DrawnRows
namespace Go.Proofs.Ythekkddmbomimaa
open Go.RowKit
set_option maxRecDepth 100000

theorem info55 : (Try.prog.info? 55).map (fun i => (i.zero, i.size, i.bytes)) = some (some (.agg #[.int .u16 0, .int .u32 0, .int .u16 0, .int .u64 0]), 4, 24) := by kernel_rfl

theorem Below.alloc1 (w : World) (o : Obj) : Below w.heap.size w (w.alloc o) := (Below.refl _ _).alloc (Nat.le_refl _) _

/-- A key's cells: its first four bytes are the number n, the next two give the tag t. -/
def IsKey (ks : List Value) (n t : Nat) : Prop := ∃ a b c d x y : Nat, ks[0]? = some (.int .u8 a) ∧ ks[1]? = some (.int .u8 b) ∧ ks[2]? = some (.int .u8 c) ∧ ks[3]? = some (.int .u8 d) ∧
  ks[4]? = some (.int .u8 x) ∧ ks[5]? = some (.int .u8 y) ∧ a < 256 ∧ b < 256 ∧ c < 256 ∧ d < 256 ∧ x < 256 ∧ y < 256 ∧
  n = ((a * 256 + b) * 256 + c) * 256 + d ∧ t = (x * 256 + y) % 4096 ∧ ks.length = 32 ∧ ∀ v ∈ ks, v.oneCell' = true
theorem IsKey.length {ks : List Value} {n t : Nat} (h : IsKey ks n t) : ks.length = 32 := by obtain ⟨_, _, _, _, _, _, _, _, _, _, _, _, _, _, _, _, _, _, _, _, h, _⟩ := h; exact h
theorem IsKey.one {ks : List Value} {n t : Nat} (h : IsKey ks n t) : ∀ v ∈ ks, v.oneCell' = true := by obtain ⟨_, _, _, _, _, _, _, _, _, _, _, _, _, _, _, _, _, _, _, _, _, h⟩ := h; exact h
theorem IsKey.tag {ks : List Value} {n t : Nat} (h : IsKey ks n t) : t < 4096 := by obtain ⟨_, _, _, _, _, _, _, _, _, _, _, _, _, _, _, _, _, _, _, rfl, _, _⟩ := h; omega

theorem u16_and4095 {x : Int} (h₀ : 0 ≤ x) (h₁ : x < 65536) : bits .and .u16 x 4095 = x % 4096 := bits_mask .u16 16 (by decide) wraps_u16 12 (by decide) x h₀ h₁
theorem u16_or {x y : Int} (hx₀ : 0 ≤ x) (hx : x % 256 = 0) (hx₁ : x < 65536) (h₀ : 0 ≤ y) (h₁ : y < 256) : bits .or .u16 x y = x + y :=
  bits_join .u16 16 (by decide) wraps_u16 8 x y hx₀ hx hx₁ h₀ h₁ (by omega)
theorem u32_or' (i : Nat) (x y : Int) (hx₀ : 0 ≤ x) (hx : x % 2 ^ i = 0) (hx₁ : x < 4294967296) (h₀ : 0 ≤ y) (h₁ : y < 2 ^ i) (h₂ : y < 4294967296) : bits .or .u32 x y = x + y :=
  bits_join .u32 32 (by decide) wraps_u32 i x y hx₀ hx hx₁ h₀ h₁ h₂

theorem Tag_any {ks : List Value} {n t : Nat} (hk : IsKey ks n t) (w : World) :
    Calls Try.prog 11 #[.agg ks.toArray] w fun e w' => e = .returned (.int .u16 t) ∧ Below w.heap.size w w' := by
  obtain ⟨a, b, c, d, x, y, -, -, -, -, h4, h5, -, -, -, -, hx', hy', -, rfl, -, -⟩ := hk
  go_enter Try.func11, Try.ntmps11
  go_wp2
  go_ret
  refine ⟨?_, Below.alloc1 _ _⟩
  simp only [Array.getD, List.size_toArray, List.length_cons, List.length_nil]
  simp
  rw [u16_or (by omega) (by omega) (by omega) (by omega) (by omega), u16_and4095 (by omega) (by omega)]

theorem four_bytes {a b c d : Int} (ha : 0 ≤ a) (ha' : a < 256) (hb : 0 ≤ b) (hb' : b < 256) (hc : 0 ≤ c) (hc' : c < 256) (hd : 0 ≤ d) (hd' : d < 256) :
    bits BinOp.or IntKind.u32 (bits BinOp.or IntKind.u32 (bits BinOp.or IntKind.u32 (a * 16777216) (b * 65536)) (c * 256)) d = ((a * 256 + b) * 256 + c) * 256 + d := by
  rw [u32_or' 24 (a * 16777216) (b * 65536) (by omega) (by omega) (by omega) (by omega) (by omega) (by omega),
    u32_or' 16 (a * 16777216 + b * 65536) (c * 256) (by omega) (by omega) (by omega) (by omega) (by omega) (by omega),
    u32_or' 8 (a * 16777216 + b * 65536 + c * 256) d (by omega) (by omega) (by omega) (by omega) (by omega) (by omega)]
  omega

theorem Bucket_any {ks : List Value} {n t : Nat} (hk : IsKey ks n t) (w : World) (p B C : Nat) (a : Option Addr) (hp : p < w.heap.size) (hB : 1 ≤ B) (hB' : B ≤ 4096)
    (hn : w.cell? ⟨p, 2, none⟩ = some (.slice a B C)) :
    Calls Try.prog 14 #[.pointer (some ⟨p, 0, none⟩), .agg ks.toArray] w fun e w' => e = .returned (.int .i64 (n % B : Nat)) ∧ Below w.heap.size w w' := by
  obtain ⟨a, b, c, d, x, y, h0, h1, h2, h3, -, -, ha', hb', hc', hd', -, -, rfl, -, -, -⟩ := hk
  have hne : w.heap.size ≠ p := by omega
  go_enter Try.func14, Try.ntmps14
  go_wp2
  go_ret
  refine ⟨?_, Below.alloc1 _ _⟩
  simp only [Array.getD, List.size_toArray, List.length_cons, List.length_nil]
  simp
  rw [four_bytes (by omega) (by omega) (by omega) (by omega) (by omega) (by omega) (by omega) (by omega), Int.tmod_eq_emod_of_nonneg (by omega)]
  have h1 := Int.emod_nonneg ((((a : Int) * 256 + b) * 256 + c) * 256 + d) (show (B : Int) ≠ 0 by omega)
  have h2 := Int.emod_lt_of_pos ((((a : Int) * 256 + b) * 256 + c) * 256 + d) (show (0 : Int) < B by omega)
  generalize ((((a : Int) * 256 + b) * 256 + c) * 256 + d) % (B : Int) = q at *
  unfold wrap64; omega

theorem bucket_any (w : World) (p pl pn s M B i ni : Nat) (hs : 1 ≤ s) (hs' : s ≤ 16) (hi : i < B) (hni : ni ≤ s) (hM : i * s + s ≤ M) (hM' : M ≤ 65536)
    (h0 : w.cell? ⟨p, 0, none⟩ = some (.int .i64 s))
    (h1 : w.cell? ⟨p, 1, none⟩ = some (.slice (some ⟨pl, 0, none⟩) M M))
    (h2 : w.cell? ⟨p, 2, none⟩ = some (.slice (some ⟨pn, 0, none⟩) B B))
    (h3 : w.cell? ⟨pn, i, none⟩ = some (.int .i64 ni)) :
    Calls Try.prog 38 #[.pointer (some ⟨p, 0, none⟩), .int .i64 i] w fun e w' => e = .returned (.slice (some ⟨pl, i * s * 4, none⟩) ni s) ∧ ∃ n, w' = w.drewN n := by
  obtain ⟨m, hm⟩ : ∃ m, m = i * s := ⟨_, rfl⟩
  have hmi : (i : Int) * (s : Int) = (m : Int) := by rw [hm]; simp
  have a1 : (0 : Int) ≤ i := by omega
  have a2 : (i : Int) < B := by omega
  have a3 : m + s ≤ M := by omega
  have HM : Hid (m = i * s) := hm
  clear hm hM
  go_enter Try.func38, Try.ntmps38
  go_wp2
  go_quiet (fail)
  go_wp2
  go_ret
  refine ⟨?_, _, rfl⟩
  rw [← HM.out]
  simp only [Array.getD, List.size_toArray, List.length_cons, List.length_nil]
  simp

theorem lay_any (w : World) (p pl pn s M B i m : Nat) (cur nv : List Value) (v : Value) (cs : List Value) (hs : 1 ≤ s) (hs' : s ≤ 16) (hB' : B ≤ 4096) (hi : i < B) (hm : m ≤ s) (hM : i * s + s ≤ M) (hM' : M ≤ 65536)
    (h0 : w.cell? ⟨p, 0, none⟩ = some (.int .i64 s))
    (h1 : w.cell? ⟨p, 1, none⟩ = some (.slice (some ⟨pl, 0, none⟩) M M))
    (h2 : w.cell? ⟨p, 2, none⟩ = some (.slice (some ⟨pn, 0, none⟩) B B))
    (hl : Blk w pl cur 55) (hcl : cur.length = M * 4) (hn : Blk w pn nv 3) (hcn : nv.length = B) (hne : pl ≠ p) (hne' : pl ≠ pn) (hnp : pn ≠ p)
    (hv : SlR w v 4 m cs) (h1c : ∀ v ∈ cs, v.oneCell' = true) :
    Calls Try.prog 37 #[.pointer (some ⟨p, 0, none⟩), .int .i64 i, v] w fun e w' => e = .returned (.tuple #[]) ∧ Blk w' pl (splice cur (i * s * 4) cs) 55 ∧ Blk w' pn (nv.set i (.int .i64 m)) 3 ∧ Keeps (fun k => k = pl ∨ k = pn) w w' := by
  obtain ⟨k, hk⟩ : ∃ k, k = i * s := ⟨_, rfl⟩
  have hki : (i : Int) * (s : Int) = (k : Int) := by rw [hk]; simp
  have hki2 : ((i : Int) + 1) * (s : Int) = (k : Int) + s := by rw [Int.add_mul, hki]; simp
  have a1 : (0 : Int) ≤ i := by omega
  have a2 : (i : Int) < B := by omega
  have a3 : k + s ≤ M := by omega
  obtain ⟨nold, hnold⟩ : ∃ u, nv[i]? = some u := ⟨nv[i]'(by omega), by simp [hcn, hi]⟩
  have c0 := hn.cell hnold
  have f0 := hn.frozen i
  have e1 : IntKind.i64.wrap ((i : Int) + 1) = (i : Int) + 1 := by rw [IntKind.wrap_i64]; omega
  have e2 : IntKind.i64.wrap (k : Int) = (k : Int) := by rw [IntKind.wrap_i64]; omega
  have e3 : IntKind.i64.wrap ((k : Int) + s) = (k : Int) + s := by rw [IntKind.wrap_i64]; omega
  have e4 : ((k : Int) + s).toNat = k + s := by omega
  have e5 : (0 : Int) ≤ (k : Int) + s := by omega
  have e6 : (k : Int) ≤ (k : Int) + s := by omega
  have e7 : (k : Int) + s ≤ (M : Int) := by omega
  have e8 : ¬ M = k := by omega
  have hfit : k * 4 + m * 4 ≤ cur.length := by omega
  obtain ⟨i0, hi0, -, hz1, -⟩ := info_parts info55
  have hrun := run_copyK (P := Try.prog) (w := w.drew) 45 45 3 55 i0 Try.underlying45 hi0 4 hz1 (hl.drew) (k * 4) s (M - k) (show SlR w.drew v 4 m cs from hv) hm hfit h1c
  have kp : Keeps (fun k => k = pl ∨ k = pn) w (w.drew.setRow pl (splice cur (k * 4) cs).toArray) := (Keeps.drew _ _).trans (Keeps.setRow _ _ _ (.inl rfl))
  have hl2 : Blk (w.drew.setRow pl (splice cur (k * 4) cs).toArray) pl (splice cur (k * 4) cs) 55 := hl.drew.setRow _
  have hn2 : Blk (w.drew.setRow pl (splice cur (k * 4) cs).toArray) pn nv 3 := hn.drew.setRowOther _ (Ne.symm hne')
  have kc : ∀ j, (w.drew.setRow pl (splice cur (k * 4) cs).toArray).cell? ⟨p, j, none⟩ = w.cell? ⟨p, j, none⟩ := fun j => World.cell?_of_block (w := w) (setRow_other w.drew pl p _ (Ne.symm hne))
  generalize w.drew.setRow pl (splice cur (k * 4) cs).toArray = w2 at *
  have k0 := (kc 0).trans h0
  have k1 := (kc 1).trans h1
  have k2 := (kc 2).trans h2
  have c2 := hn2.cell hnold
  have f2 := hn2.frozen i
  have HR : Hid _ := hrun
  have HM : Hid (k = i * s) := hk
  have HC : Hid (cur.length = M * 4) := hcl
  clear hk hM hcl kc hrun h1c hfit
  go_enter Try.func37, Try.ntmps37
  go_wp2
  go_region_held3 (fun w' => w'.cell? ⟨p, 0, none⟩ = some (.int .i64 s) ∧ w'.cell? ⟨p, 1, none⟩ = some (.slice (some ⟨pl, 0, none⟩) M M) ∧ w'.cell? ⟨p, 2, none⟩ = some (.slice (some ⟨pn, 0, none⟩) B B)) (go_keep)
    (first | (refine step_runCopy (by rfl) (.tmp 28) (.tmp 29) 45 45 (by rfl) (goInt m) w2 (by exact HR.out) ?_))
  go_wp2
  go_end0
  exact ⟨rfl, by rw [← HM.out]; exact hl2.setCellOther _ _ hne', hn2.setCell _ _, kp.trans (Keeps.setCell w2 ⟨pn, i, none⟩ _ (fun _ => .inr rfl))⟩
end Go.Proofs.Ythekkddmbomimaa
