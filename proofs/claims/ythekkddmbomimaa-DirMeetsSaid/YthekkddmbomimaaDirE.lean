/- Contracts of slices.Clone, of the sweep's test (the function literal in Purge), of slices.IndexFunc over it. Conditions: the slices read as entries; the literal's captured variables lie in their boxes. -/
import Derived.Test.YthekkddmbomimaaDirD
import Derived.Lib.SliceRun
namespace Go.Proofs.Ythekkddmbomimaa
open Go.RowKit
set_option maxRecDepth 100000

set_option maxHeartbeats 400000 in
theorem Clone_any (w : World) (a : Addr) (c : Nat) (xs : List En) (hv : SlR w (.slice (some a) xs.length c) 4 xs.length (cellsE xs)) (hn : xs.length ≤ 65536) :
    Calls Try.prog 41 #[.slice (some a) xs.length c] w fun e w' => ∃ v', e = .returned v' ∧ SlOwn w' v' 55 4 xs.length (cellsE xs) ∧ Keeps (fun _ => False) w w' ∧ (∀ k, blkOf v' = some k → w.heap.size ≤ k) := by
  have q22 : ∀ (w : World) (a : Option Addr) (n c n' c' : Nat), (binOp .eql 45 (.slice a n c) (.slice none n' c')).run Try.prog w = .ok (.bool a.isNone) w := fun w a n c n' c' => Lib.run_eql_slice_nil w _ _ a n c n' c' Try.underlying45
  obtain ⟨i0, hi0, hz0, hs0, hb0⟩ := info_parts info55
  have ho : SlOwn (w.alloc (.cells #[] 55)) (.slice (some ⟨w.heap.size, 0, none⟩) 0 0) 55 4 0 [] := ⟨by simp, _, 0, rfl, Nat.le_refl _, Nat.zero_le _, .inl rfl⟩
  have hv2 : SlR (w.alloc (.cells #[] 55)) (.slice (some a) xs.length c) 4 xs.length (cellsE xs) := hv.below (Below.alloc1 _ _)
  obtain ⟨v', w2, hrun, hown, hk, hb⟩ := run_appendOwn (P := Try.prog) 45 45 45 55 i0 _ 4 24 Try.underlying45 Try.underlying45 hi0 hz0 hs0 hb0 rfl ho hv2 (cellsE_one_cell xs) (by unfold maxLen; omega) (by omega)
  rw [Nat.zero_add, List.nil_append] at hown
  have hkp : Keeps (fun _ => False) w w2 := (Keeps.alloc _ _ _).trans (hk.mono (fun k h => by simp [blkOf] at h))
  have hfr : ∀ k, blkOf v' = some k → w.heap.size ≤ k := by
    intro k hk2
    rcases hb with hb | ⟨hb, _⟩
    · rw [hb] at hk2; simp [blkOf] at hk2
    · rw [hb] at hk2; simp at hk2; omega
  have HR := Lib.hid hrun
  have HO := Lib.hid hown
  have HF := Lib.hid hfr
  clear hrun hown hfr hb hk ho hv hv2 hn
  go_enter Try.func41, Try.ntmps41
  go_wp2_with (first | (refine wpList_runAppend rfl (.tmp 5) (.tmp 6) 45 45 rfl v' w2 (by exact HR.out) ?_))
  go_ret
  exact ⟨v', rfl, HO.out, hkp, HF.out⟩

/-- The sweep's test: its three captured variables lie in boxes. -/
structure Boxes (w : World) (b1 b2 b3 : Nat) (from_ to turn : Nat) : Prop where
  c1 : w.cell? ⟨b1, 0, none⟩ = some (.int .u32 from_)
  c2 : w.cell? ⟨b2, 0, none⟩ = some (.int .u32 to)
  c3 : w.cell? ⟨b3, 0, none⟩ = some (.int .u64 turn)
  l1 : b1 < w.heap.size
  l2 : b2 < w.heap.size
  l3 : b3 < w.heap.size
theorem Boxes.keeps {S : Nat → Prop} {w w' : World} {b1 b2 b3 from_ to turn : Nat} (h : Boxes w b1 b2 b3 from_ to turn) (k : Keeps S w w') (s1 : ¬ S b1) (s2 : ¬ S b2) (s3 : ¬ S b3) : Boxes w' b1 b2 b3 from_ to turn :=
  ⟨(k.cell (p := ⟨b1, 0, none⟩) h.l1 s1).trans h.c1, (k.cell (p := ⟨b2, 0, none⟩) h.l2 s2).trans h.c2, (k.cell (p := ⟨b3, 0, none⟩) h.l3 s3).trans h.c3,
   Nat.lt_of_lt_of_le h.l1 k.size, Nat.lt_of_lt_of_le h.l2 k.size, Nat.lt_of_lt_of_le h.l3 k.size⟩

set_option maxHeartbeats 1000000 in
theorem gone_any (w : World) (b1 b2 b3 from_ to turn : Nat) (hB : Boxes w b1 b2 b3 from_ to turn) (e : En) (he : e.ok) (hf : from_ < 4294967296) (ht : to < 4294967296) :
    Calls Try.prog 43 #[.agg e.enc.toArray, .pointer (some ⟨b1, 0, none⟩), .pointer (some ⟨b2, 0, none⟩), .pointer (some ⟨b3, 0, none⟩)] w fun r w' => r = .returned (.bool (gone from_ to turn e)) ∧ Below w.heap.size w w' := by
  obtain ⟨tag, at_, sec, tu⟩ := e
  obtain ⟨c1, c2, c3, l1, l2, l3⟩ := hB
  obtain ⟨h1, h2, h3, h4⟩ := he
  simp only at h1 h2 h3 h4
  unfold En.enc
  have n1 : w.heap.size ≠ b1 := by omega
  have n2 : w.heap.size ≠ b2 := by omega
  have n3 : w.heap.size ≠ b3 := by omega
  clear h1 h4
  by_cases t1 : from_ < to
  · have u1 : decide ((from_ : Int) < to) = true := by simp; omega
    by_cases t2 : at_ < to
    · have u2 : decide ((at_ : Int) < to) = true := by simp; omega
      by_cases t3 : from_ < at_ + sec
      · have hg : gone from_ to turn ⟨tag, at_, sec, tu⟩ = decide (tu < turn) := by simp [gone, t1, t2, t3]
        rw [hg]
        have u3 : decide ((from_ : Int) < (at_ : Int) + sec) = true := by simp; omega
        clear hg
        go_enter Try.func43, Try.ntmps43
        go_wp2
        go_ret
        exact ⟨by simp, Below.alloc1 _ _⟩
      · have hg : gone from_ to turn ⟨tag, at_, sec, tu⟩ = false := by simp [gone, t3]
        rw [hg]
        have u3 : decide ((from_ : Int) < (at_ : Int) + sec) = false := by simp; omega
        clear hg
        go_enter Try.func43, Try.ntmps43
        go_wp2
        go_ret
        exact ⟨by simp, Below.alloc1 _ _⟩
    · have hg : gone from_ to turn ⟨tag, at_, sec, tu⟩ = false := by simp [gone, t2]
      rw [hg]
      have u2 : decide ((at_ : Int) < to) = false := by simp; omega
      clear hg
      go_enter Try.func43, Try.ntmps43
      go_wp2
      go_ret
      exact ⟨by simp, Below.alloc1 _ _⟩
  · have hg : gone from_ to turn ⟨tag, at_, sec, tu⟩ = false := by simp [gone, t1]
    rw [hg]
    have u1 : decide ((from_ : Int) < to) = false := by simp; omega
    clear hg
    go_enter Try.func43, Try.ntmps43
    go_wp2
    go_ret
    exact ⟨by simp, Below.alloc1 _ _⟩

/-- The first place at which p holds, from place k on. -/
def firstAt {α : Type} (p : α → Bool) : List α → Option Nat
  | [] => none
  | x :: l => if p x then some 0 else (firstAt p l).map (· + 1)
def idxOf {α : Type} (p : α → Bool) (l : List α) : Int := match firstAt p l with | some i => i | none => -1

theorem firstAt_none {α : Type} (p : α → Bool) : ∀ (l : List α), (∀ x ∈ l, p x = false) → firstAt p l = none
  | [], _ => rfl
  | x :: l, h => by
    rw [firstAt, if_neg (by rw [h x (by simp)]; simp), firstAt_none p l (fun y hy => h y (by simp [hy]))]; rfl
theorem firstAt_some {α : Type} (p : α → Bool) : ∀ (l : List α) (k : Nat) (x : α), l[k]? = some x → p x = true → (∀ (j : Nat) y, j < k → l[j]? = some y → p y = false) → firstAt p l = some k
  | [], k, x, h, _, _ => by simp at h
  | y :: l, 0, x, h, hp, _ => by
    obtain rfl : y = x := by simpa using h
    rw [firstAt, if_pos hp]
  | y :: l, k + 1, x, h, hp, hn => by
    rw [firstAt, if_neg (by rw [hn 0 y (by omega) rfl]; simp), firstAt_some p l k x (by simpa using h) hp (fun j z hj hz => hn (j + 1) z (by omega) (by simpa using hz))]; rfl

theorem SlR.cells_at {w : World} {b off : Nat} {xs : List En} (h : ∀ j u, (cellsE xs)[j]? = some u → w.cell? ⟨b, off + j, none⟩ = some u) {k : Nat} {e : En} (hk : xs[k]? = some e) :
    w.cell? ⟨b, off + k * 4, none⟩ = some (.int .u16 e.tag) ∧ w.cell? ⟨b, off + k * 4 + 1, none⟩ = some (.int .u32 e.at_) ∧ w.cell? ⟨b, off + k * 4 + 2, none⟩ = some (.int .u16 e.sec) ∧ w.cell? ⟨b, off + k * 4 + 3, none⟩ = some (.int .u64 e.turn) := by
  obtain ⟨h0, h1, h2, h3⟩ := cellsE_at hk
  exact ⟨h _ _ h0, h _ _ h1, h _ _ h2, h _ _ h3⟩

set_option maxHeartbeats 1000000 in
theorem IndexFunc_any (w : World) (b1 b2 b3 from_ to turn : Nat) (hB : Boxes w b1 b2 b3 from_ to turn) (hf : from_ < 4294967296) (ht : to < 4294967296) (b off c : Nat) (xs : List En)
    (hb : b < w.heap.size) (hc : ∀ j u, (cellsE xs)[j]? = some u → w.cell? ⟨b, off + j, none⟩ = some u) (hok : ∀ e ∈ xs, e.ok) (hn : xs.length ≤ 65536) :
    Calls Try.prog 53 #[.slice (some ⟨b, off, none⟩) xs.length c, .func (.func 43) #[] #[.pointer (some ⟨b1, 0, none⟩), .pointer (some ⟨b2, 0, none⟩), .pointer (some ⟨b3, 0, none⟩)]] w fun r w' => r = .returned (.int .i64 (idxOf (gone from_ to turn) xs)) ∧ Below w.heap.size w w' := by
  have HC := Lib.hid hc
  have HB := Lib.hid hB
  have HO := Lib.hid hok
  clear hc hB hok
  go_enter Try.func53, Try.ntmps53
  go_wp2
  go_loopw [8] (fun i wr => ∃ k : Nat, i = .int .i64 k ∧ k ≤ xs.length ∧ Hid (∀ (j : Nat) y, j < k → xs[j]? = some y → gone from_ to turn y = false) ∧ Below w.heap.size w wr) (fun i _ => xs.length - (intOf i).toNat)
  case atStart => exact ⟨0, rfl, Nat.zero_le _, fun j y hj => by omega, Below.refl _ _⟩
  case round =>
    obtain ⟨k, rfl, hk, hnone, hbw⟩ := hrel
    by_cases hlt : k < xs.length
    · obtain ⟨e, he⟩ : ∃ e, xs[k]? = some e := ⟨xs[k], by simp [hlt]⟩
      obtain ⟨r0, r1, r2, r3⟩ := SlR.cells_at (w := w) HC.out he
      have c0 := (hbw.cell (p := ⟨b, off + k * 4, none⟩) hb).trans r0
      have c1 := (hbw.cell (p := ⟨b, off + k * 4 + 1, none⟩) hb).trans r1
      have c2 := (hbw.cell (p := ⟨b, off + k * 4 + 2, none⟩) hb).trans r2
      have c3 := (hbw.cell (p := ⟨b, off + k * 4 + 3, none⟩) hb).trans r3
      have hcall := gone_any wr b1 b2 b3 from_ to turn (HB.out.keeps (Keeps.ofBelow (S := fun _ => False) hbw) id id id) e (HO.out e (List.mem_of_getElem? he)) hf ht
      have HE := Lib.hid he
      have HW := Lib.hid hbw
      have a1 : (k : Int) < xs.length := by omega
      clear r0 r1 r2 r3 he hbw
      cases hg : gone from_ to turn e with
      | true =>
        have hfin : idxOf (gone from_ to turn) xs = (k : Int) := by unfold idxOf; rw [firstAt_some _ xs k e HE.out hg hnone.out]
        rw [hg] at hcall
        have HF := Lib.hid hfin
        have hcl := Lib.hid hcall
        clear hg hcall hfin
        go_wp2_with fail
        refine hcl.out.mono ?_
        rintro e w' ⟨rfl, hb2⟩
        have HB2 := Lib.hid hb2
        clear hb2
        go_wp2
        go_ret
        exact ⟨by rw [HF.out]; rfl, HW.out.trans (HB2.out.mono HW.out.size)⟩
      | false =>
        have hnext : ∀ (j : Nat) y, j < k + 1 → xs[j]? = some y → gone from_ to turn y = false := by
          intro j y hj hy
          by_cases hjk : j = k
          · subst hjk; rw [HE.out] at hy; obtain rfl : e = y := by simpa using hy
            exact hg
          · exact hnone.out j y (by omega) hy
        rw [hg] at hcall
        have HF := Lib.hid hnext
        have hcl := Lib.hid hcall
        clear hg hcall hnext
        go_wp2_with fail
        refine hcl.out.mono ?_
        rintro e w' ⟨rfl, hb2⟩
        have HB2 := Lib.hid hb2
        clear hb2
        go_wp2
        go_roundw
        case rel => exact ⟨k + 1, by go_num, by omega, HF.out, HW.out.trans (HB2.out.mono HW.out.size)⟩
        case measure => simp [intOf]; omega
    · have hfin : idxOf (gone from_ to turn) xs = -1 := by
        unfold idxOf; rw [firstAt_none _ xs (fun x hx => by
          obtain ⟨j, hj⟩ := List.getElem?_of_mem hx
          exact hnone.out j x (by have := (List.getElem?_eq_some_iff.1 hj).1; omega) hj)]
      have HF := Lib.hid hfin
      have HW := Lib.hid hbw
      have a1 : ¬ (k : Int) < xs.length := by omega
      clear hfin hbw
      go_wp2
      go_ret
      exact ⟨by rw [HF.out]; rfl, HW.out⟩
end Go.Proofs.Ythekkddmbomimaa
