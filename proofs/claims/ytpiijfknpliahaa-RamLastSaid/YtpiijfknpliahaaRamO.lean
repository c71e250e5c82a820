/- Contract of Put, whatever room says. Conditions: the receiver is a memory; the bytes read as such; what room comes to is told. -/
import Derived.Test.YtpiijfknpliahaaRamN
import Derived.Test.YtpiijfknpliahaaRamJ
import Derived.Laws.Tables
namespace Go.Proofs.Ytpiijfknpliahaa
open Go.RowKit
set_option maxRecDepth 100000
attribute [local go_sem] Oper.semAt_some

variable {ro : Nat → Nat} {w w' : World} {r lim used : Nat} {L P X : Ents}
theorem run_build65 (k : Nat) (a : Option Addr) (l c n : Nat) (b : List Nat) (W : World) : (Instr.build 65 #[(0, .agg (keyR k).toArray), (1, .slice a l c), (2, .int .i64 n)]).run Try.prog W = .ok (.agg (entV ⟨k, b, n, 0⟩ (.slice a l c)).toArray) W :=
  run_build W 65 _ _ (by kernel_rfl)
theorem run_build65op (k : Nat) (a : Option Addr) (l c n : Nat) (b : List Nat) {w : World} {ρ : Operand → Value} {o : Oper} (x y z : Operand) (ho : o.op = .build 65 #[(0, x), (1, y), (2, z)]) (hx : ρ x = .agg (keyR k).toArray) (hy : ρ y = .slice a l c) (hz : ρ z = .int .i64 n) :
    (execOp ρ o).run Try.prog w = .ok (.value (.agg (entV ⟨k, b, n, 0⟩ (.slice a l c)).toArray)) w := by
  have h := run_build65 k a l c n b w
  rw [← hx, ← hy, ← hz] at h
  unfold execOp
  simp only [ho, Sem.run_bind]
  have e : (#[(0, x), (1, y), (2, z)].map fun (q : Nat × Operand) => match q with | (i, x) => (i, ρ x)) = #[(0, ρ x), (1, ρ y), (2, ρ z)] := by simp
  rw [e, h, hy]
  rfl
def hits0 : Option (Nat × It) → Nat
  | some q => q.2.hits
  | none => 0
def putIt (k : Nat) (b : List Nat) (o : Option (Nat × It)) : It := ⟨k, b, b.length + 64, min (hits0 o + 1) 1000⟩
def putL (ok : Bool) (L : Ents) (e : Nat) (x : It) : Ents := if ok then L ++ [(e, x)] else L
def putP (ok : Bool) (P : Ents) (e : Nat) (x : It) : Ents := if ok then P else P ++ [(e, oldI x)]
def putU (ok : Bool) (u : Nat) (x : It) : Nat := if ok then u + x.size else u
theorem RamAt.hits_le {p : Nat × It} (h : RamAt ro w r lim used L P (p :: X)) : p.2.hits ≤ 1000 := (h.ents p (by simp)).h1
theorem Grow.ofLe {ro ro' : Nat → Nat} {w w2 : World} (h : Grow ro ro' w2) (hs : w.heap.size ≤ w2.heap.size) : Grow ro ro' w :=
  ⟨fun b hb => h.1 b (by omega), fun b hb => by have := h.2 b hb; omega⟩

theorem RamHead.setUsed {used' : Nat} {vl vp : Value} (h : RamHead ro w r lim used L P vl vp) (hr : ro r = 1) : RamHead ro (w.setCell ⟨r, 1, none⟩ (.int .i64 used')) r lim used' L P vl vp := by
  have hk : Keeps (fun b => b = r) w (w.setCell ⟨r, 1, none⟩ (.int .i64 used')) := Keeps.setCell _ _ _ (fun _ => rfl)
  exact ⟨h.blk.setCell 1 _, h.sl.keeps hk (fun b hb e => by have := h.rl b hb; subst e; omega), h.sp.keeps hk (fun b hb e => by have := h.rp b hb; subst e; omega), h.rl, h.rp⟩
theorem frame_step {ro ro1 ro2 : Nat → Nat} {w w1 w2 : World} (K : Keeps (fun b => ro b ≠ 0) w w1) (G : Grow ro ro1 w) (k : Keeps (fun b => ro1 b ≠ 0) w1 w2) (g : Grow ro1 ro2 w1) : Keeps (fun b => ro b ≠ 0) w w2 ∧ Grow ro ro2 w :=
  ⟨K.transNew k (fun b hb e => by rw [G.1 b hb] at e; exact e), G.trans g K.size⟩
set_option maxHeartbeats 8000000 in
theorem Put_any (h : RamAt ro w r lim used L P []) (hn : L.length ≤ 1073741824) (hn2 : P.length ≤ 1073741824) (hu : used ≤ 1073741824) (hsz : ∀ p ∈ L, p.2.size ≤ used) (k : Nat) (v : Value) (b : List Nat) (hv : SlR w v 1 b.length (bytesV b)) (hb : b.length ≤ 65536)
    (ok : Bool) (used2 : Nat) (L2 P2 : Ents) (hl2 : L2.length ≤ 1073741823) (hp2 : P2.length ≤ 1073741823) (hu2 : used2 ≤ 1073741824)
    (hroom : (lim < b.length + 64 ∧ ok = false ∧ used2 = (mOut k used L P).used ∧ L2 = (mOut k used L P).L ∧ P2 = (mOut k used L P).P) ∨
      (b.length + 64 ≤ lim ∧ ∀ (W : World) (ro : Nat → Nat) (e : Nat), RamAt ro W r lim (mOut k used L P).used (mOut k used L P).L (mOut k used L P).P [(e, putIt k b (mOut k used L P).o)] →
        Calls Try.prog 35 #[.pointer (some ⟨r, 0, none⟩), .pointer (some ⟨e, 0, none⟩)] W fun e' W' => ∃ ro', e' = .returned (.bool ok) ∧ RamAt ro' W' r lim used2 L2 P2 [(e, putIt k b (mOut k used L P).o)] ∧ Keeps (fun b => ro b ≠ 0) W W' ∧ Grow ro ro' W)) :
    Calls Try.prog 12 #[.pointer (some ⟨r, 0, none⟩), .agg (keyR k).toArray, v] w fun e w' => e = .returned (.bool ok) ∧ ∃ ro' e', RamAt ro' w' r lim (putU ok used2 (putIt k b (mOut k used L P).o)) (putL ok L2 e' (putIt k b (mOut k used L P).o))
      ((putP ok P2 e' (putIt k b (mOut k used L P).o)).drop (trimN (putL ok L2 e' (putIt k b (mOut k used L P).o)) (putP ok P2 e' (putIt k b (mOut k used L P).o)))) [] ∧ Keeps (fun b => ro b ≠ 0) w w' ∧ Grow ro ro' w := by
  have hk1 : Keeps (fun _ => False) w (w.alloc (.cells (keyR k).toArray 30)) := Keeps.alloc _ _ _
  have hr0 : ro w.heap.size = 0 := by
    by_cases e : ro w.heap.size = 0
    · exact e
    · have := h.lt _ e; omega
  have H := Lib.hid (h.below hk1)
  have HB := Lib.hid (Blk.new w (keyR k) 30)
  have HK := Lib.hid hk1
  have HV := Lib.hid (hv.keeps hk1 (fun _ _ _ _ _ _ h => h))
  have HRM := Lib.hid hroom
  have HSZ := Lib.hid hsz
  obtain ⟨va, vc, rfl⟩ := hv.form
  have e1 : IntKind.i64.wrap ((b.length : Int) + 64) = ((b.length + 64 : Nat) : Int) := by rw [IntKind.wrap_i64]; omega
  clear h hk1 hv hroom hsz
  go_enter_defers Try.func12, Try.ntmps12
  go_wp2
  have hD0 := H.out.below (Keeps.drew (fun _ => False) _)
  have hV0 := HV.out.keeps (Keeps.drew (fun _ => False) _) (fun _ _ _ _ _ _ h => h)
  have hS0 : Blk (w.alloc (.cells (keyR k).toArray 30)).drew w.heap.size (keyR k) 30 := HB.out.drew
  refine wp_region_noPanic ?_
  refine wp_region_held_drew (S := fun w' => Blk w' w.heap.size (keyR k) 30) (by kernel_rfl) hS0 (fun _ => ?_)
  refine take_at 0 (some 11) (.agg (keyR k).toArray) rfl rfl (by kernel_rfl) (by kernel_rfl) (by kernel_rfl) (fun _ _ _ h => h) (.inl ⟨by rfl, fun w' hS => ?_⟩) hS0 ?_
  · exact run_load_part (hS.part 0 (keyR k) (by simp [keyR])) 30 _ Try.underlying30 rfl (sizeKey _) _ _ (.tmp 4) rfl rfl
  try simp only [Act.put, List.setIfInBounds_toArray, List.set_cons_zero, List.set_cons_succ]
  refine take_at 1 (some 12) (.slice va b.length vc) rfl rfl (by kernel_rfl) (by kernel_rfl) (by kernel_rfl) (fun _ _ _ h => h) (.inl ⟨by rfl, fun w' hS => ?_⟩) hS0 ?_
  · go_simp
  try simp only [Act.put, List.setIfInBounds_toArray, List.set_cons_zero, List.set_cons_succ]
  refine take_at 3 (some 14) (.slice va b.length vc) rfl rfl (by kernel_rfl) (by kernel_rfl) (by kernel_rfl) (fun _ _ _ h => h) (.inl ⟨by rfl, fun w' hS => ?_⟩) hS0 ?_
  · go_simp
  try simp only [Act.put, List.setIfInBounds_toArray, List.set_cons_zero, List.set_cons_succ]
  refine take_at 4 (some 15) (.int .i64 b.length) rfl rfl (by kernel_rfl) (by kernel_rfl) (by kernel_rfl) (fun _ _ _ h => h) (.inl ⟨by rfl, fun w' hS => ?_⟩) hS0 ?_
  · go_simp
  try simp only [Act.put, List.setIfInBounds_toArray, List.set_cons_zero, List.set_cons_succ]
  refine take_at 5 (some 16) (.int .i64 ((b.length + 64 : Nat) : Int)) rfl rfl (by kernel_rfl) (by kernel_rfl) (by kernel_rfl) (fun _ _ _ h => h) (.inl ⟨by rfl, fun w' hS => ?_⟩) hS0 ?_
  · go_simp
  try simp only [Act.put, List.setIfInBounds_toArray, List.set_cons_zero, List.set_cons_succ]
  refine wpAnyH_all (rs := [2]) (by kernel_rfl) (by simp) ?_
  intro i2 hi2
  obtain rfl : i2 = 2 := by simpa using hi2
  refine call_atG (some 13) rfl rfl rfl 30 #[.slice va b.length vc] ?_ ?_
  · go_simp
  refine (Clone_any _ _ b hV0 hb).mono ?_
  rintro e w5 ⟨v5, rfl, h5, hk5, hf5⟩
  obtain ⟨xa, xc, rfl, _⟩ := h5.form
  have hS5 : Blk w5 w.heap.size (keyR k) 30 := hS0.keeps hk5 id
  have hD5 := hD0.below hk5
  refine ⟨_, rfl, hS5, ?_⟩
  try simp only [Act.put, List.setIfInBounds_toArray, List.set_cons_zero, List.set_cons_succ]
  refine take_at 6 (some 17) (.agg (entV ⟨k, b, b.length + 64, 0⟩ (.slice xa b.length xc)).toArray) rfl rfl (by kernel_rfl) (by kernel_rfl) (by kernel_rfl) (fun _ _ _ h => h) (.inl ⟨by rfl, fun w' hS => ?_⟩) hS5 ?_
  · exact run_build65op k xa b.length xc (b.length + 64) b (.tmp 11) (.tmp 13) (.tmp 16) rfl rfl rfl rfl
  try simp only [Act.put, List.setIfInBounds_toArray, List.set_cons_zero, List.set_cons_succ]
  refine wpAnyH_all (rs := [7]) (by kernel_rfl) (by simp) ?_
  intro i7 hi7
  obtain rfl : i7 = 7 := by simpa using hi7
  have hf5' : ∀ g, blkOf (.slice xa b.length xc) = some g → w.heap.size ≤ g ∧ ro g = 0 := fun g hg => by
    have h1 := hf5 g hg
    simp at h1
    refine ⟨by omega, ?_⟩
    by_cases e : ro g = 0
    · exact e
    · have := H.out.lt _ e; simp at this; omega
  have hs5 : w.heap.size + 1 ≤ w5.heap.size := by have := hk5.size; simp at this; omega
  obtain ⟨ro6, hR6, hG6⟩ := hD5.addNew (x := ⟨k, b, b.length + 64, 0⟩) (w0 := w) h5 (by omega) hf5' (Nat.zero_le _) (by show b.length + 64 ≤ 65600; omega) hb
  refine run_at (w' := w5.alloc (.cells (entV ⟨k, b, b.length + 64, 0⟩ (.slice xa b.length xc)).toArray 65)) (some 18) (.pointer (some ⟨w5.heap.size, 0, none⟩)) rfl rfl rfl (by go_simp) ?_
  have hS6 : Blk (w5.alloc (.cells (entV ⟨k, b, b.length + 64, 0⟩ (.slice xa b.length xc)).toArray 65)) w.heap.size (keyR k) 30 := hS5.alloc _
  have hK6 : Keeps (fun _ => False) w (w5.alloc (.cells (entV ⟨k, b, b.length + 64, 0⟩ (.slice xa b.length xc)).toArray 65)) := ((HK.out.trans (Keeps.drew _ _)).trans hk5).trans (Keeps.alloc _ _ _)
  refine ⟨hS6, ?_⟩
  try simp only [Act.put, List.setIfInBounds_toArray, List.set_cons_zero, List.set_cons_succ]
  refine take_at 8 (some 7) (.pointer (some ⟨w5.heap.size, 0, none⟩)) rfl rfl (by kernel_rfl) (by kernel_rfl) (by kernel_rfl) (fun _ _ _ h => h) (.inl ⟨by rfl, fun w' hS => ?_⟩) hS6 ?_
  · go_simp
  try simp only [Act.put, List.setIfInBounds_toArray, List.set_cons_zero, List.set_cons_succ]
  refine wpAnyH_done (by kernel_rfl) ?_ _
  refine NoPanic.normal ?_
  obtain ⟨w6, hw6⟩ : ∃ w6, w5.alloc (.cells (entV ⟨k, b, b.length + 64, 0⟩ (.slice xa b.length xc)).toArray 65) = w6 := ⟨_, rfl⟩
  obtain ⟨en, hen⟩ : ∃ en, w5.heap.size = en := ⟨_, rfl⟩
  rw [hw6] at hR6 hS6 hK6 ⊢
  rw [hen] at hR6 ⊢
  have R6 := Lib.hid hR6
  have G6 := Lib.hid hG6
  have S6 := Lib.hid (hS6.part 0 (keyR k) (by simp [keyR]))
  have K6 := Lib.hid hK6
  clear hS6 hS5 hS0 hK6 hR6 hG6 h5 hk5 hf5 hf5' hD5 hD0 hV0 hw6 hen hs5
  have hOUT := out_any R6.out hn hn2 hu HSZ.out k
  generalize hm : mOut k used L P = m at *
  obtain ⟨mo, mc, mu, mL, mP⟩ := m
  have HOUT := Lib.hid hOUT
  clear hOUT
  go_wp2_with (first | (refine wpList_load_part rfl 30 (.tmp 4) rfl w.heap.size 0 rfl (keyR k) (by exact S6.out) _ Try.underlying30 rfl (sizeKey _) ?_))
  refine HOUT.out.mono ?_
  rintro e w7 ⟨rfl, hR7, hK7⟩
  cases mo with
  | none =>
    have R8 : Hid (RamAt ro6 w7 r lim mu mL mP [(en, ⟨k, b, b.length + 64, 0⟩)]) := Lib.hid hR7
    have F8 := Lib.hid (frame_step (K6.out.mono (fun _ h => h.elim)) G6.out hK7 (Grow.refl _ _))
    clear hR7 hK7
    simp only [ptrO]
    go_wp2_with fail
    refine (hit_X R8.out).mono ?_
    rintro e w9 ⟨rfl, hR9, hK9⟩
    have R9 : Hid (RamAt ro6 w9 r lim mu mL mP [(en, putIt k b none)]) := Lib.hid hR9
    have F9 := Lib.hid (frame_step F8.out.1 F8.out.2 hK9 (Grow.refl _ _))
    clear hR9 hK9
    rcases HRM.out with hA | hB
    · obtain ⟨hbig, rfl, rfl, rfl, rfl⟩ := hA
      obtain ⟨sz, hsze⟩ : ∃ sz, b.length + 64 = sz := ⟨_, rfl⟩
      obtain ⟨vl, vp, hd⟩ := R9.out.head
      obtain ⟨vb, hbk, _⟩ := (R9.out.ents (en, (putIt k b none)) (by simp)).ex
      have c0 : w9.drew.cell? ⟨r, 0, none⟩ = some (.int .i64 lim) := hd.blk.cell (j := 0) rfl
      have c33 : w9.drew.cell? ⟨en, 33, none⟩ = some (.int .i64 (sz : Int)) := by rw [← hsze]; exact hbk.cell (ent_size (putIt k b none) vb)
      clear hd hbk
      have a1 : (lim : Int) < (sz : Int) := by omega
      have HZ := Lib.hid hsze
      clear hsze
      go_wp2
      have hS7 : w9.drew.cell? ⟨en, 33, none⟩ = some (.int .i64 (sz : Int)) ∧ w9.drew.cell? ⟨r, 0, none⟩ = some (.int .i64 lim) := ⟨c33, c0⟩
      refine wp_region_noPanic ?_
      refine wp_region_held_drew (S := fun w' => w'.cell? ⟨en, 33, none⟩ = some (.int .i64 (sz : Int)) ∧ w'.cell? ⟨r, 0, none⟩ = some (.int .i64 lim)) (by kernel_rfl) hS7 (fun _ => ?_)
      refine take_at 0 (some 37) (.pointer (some ⟨en, 0, none⟩)) rfl rfl (by kernel_rfl) (by kernel_rfl) (by kernel_rfl) (fun _ _ _ h => h) (.inl ⟨by rfl, fun w' hS => ?_⟩) hS7 ?_
      · go_simp
      try simp only [Act.put, List.setIfInBounds_toArray, List.set_cons_zero, List.set_cons_succ]
      refine take_at 1 (some 38) (.pointer (some ⟨en, 0, none⟩)) rfl rfl (by kernel_rfl) (by kernel_rfl) (by kernel_rfl) (fun _ _ _ h => h) (.inl ⟨by rfl, fun w' hS => ?_⟩) hS7 ?_
      · go_simp
      try simp only [Act.put, List.setIfInBounds_toArray, List.set_cons_zero, List.set_cons_succ]
      refine take_at 2 (some 39) (.pointer (some ⟨en, 33, none⟩)) rfl rfl (by kernel_rfl) (by kernel_rfl) (by kernel_rfl) (fun _ _ _ h => h) (.inl ⟨by rfl, fun w' hS => ?_⟩) hS7 ?_
      · go_simp
      try simp only [Act.put, List.setIfInBounds_toArray, List.set_cons_zero, List.set_cons_succ]
      refine take_at 3 (some 40) (.int .i64 sz) rfl rfl (by kernel_rfl) (by kernel_rfl) (by kernel_rfl) (fun _ _ _ h => h) (.inl ⟨by rfl, fun w' hS => ?_⟩) hS7 ?_
      · have := hS.1
        go_simp
      try simp only [Act.put, List.setIfInBounds_toArray, List.set_cons_zero, List.set_cons_succ]
      refine take_at 4 (some 41) (.pointer (some ⟨r, 0, none⟩)) rfl rfl (by kernel_rfl) (by kernel_rfl) (by kernel_rfl) (fun _ _ _ h => h) (.inl ⟨by rfl, fun w' hS => ?_⟩) hS7 ?_
      · go_simp
      try simp only [Act.put, List.setIfInBounds_toArray, List.set_cons_zero, List.set_cons_succ]
      refine take_at 5 (some 42) (.pointer (some ⟨r, 0, none⟩)) rfl rfl (by kernel_rfl) (by kernel_rfl) (by kernel_rfl) (fun _ _ _ h => h) (.inl ⟨by rfl, fun w' hS => ?_⟩) hS7 ?_
      · go_simp
      try simp only [Act.put, List.setIfInBounds_toArray, List.set_cons_zero, List.set_cons_succ]
      refine take_at 6 (some 43) (.pointer (some ⟨r, 0, none⟩)) rfl rfl (by kernel_rfl) (by kernel_rfl) (by kernel_rfl) (fun _ _ _ h => h) (.inl ⟨by rfl, fun w' hS => ?_⟩) hS7 ?_
      · go_simp
      try simp only [Act.put, List.setIfInBounds_toArray, List.set_cons_zero, List.set_cons_succ]
      refine take_at 7 (some 44) (.int .i64 lim) rfl rfl (by kernel_rfl) (by kernel_rfl) (by kernel_rfl) (fun _ _ _ h => h) (.inl ⟨by rfl, fun w' hS => ?_⟩) hS7 ?_
      · have := hS.2
        go_simp
      try simp only [Act.put, List.setIfInBounds_toArray, List.set_cons_zero, List.set_cons_succ]
      refine take_at 8 (some 45) (.bool true) rfl rfl (by kernel_rfl) (by kernel_rfl) (by kernel_rfl) (fun _ _ _ h => h) (.inl ⟨by rfl, fun w' hS => ?_⟩) hS7 ?_
      · go_simp
      try simp only [Act.put, List.setIfInBounds_toArray, List.set_cons_zero, List.set_cons_succ]
      refine take_at 9 (some 46) (.bool true) rfl rfl (by kernel_rfl) (by kernel_rfl) (by kernel_rfl) (fun _ _ _ h => h) (.inl ⟨by rfl, fun w' hS => ?_⟩) hS7 ?_
      · go_simp
      try simp only [Act.put, List.setIfInBounds_toArray, List.set_cons_zero, List.set_cons_succ]
      refine take_at 10 (some 47) undef rfl rfl (by kernel_rfl) (by kernel_rfl) (by kernel_rfl) (fun _ _ _ h => h) (.inr ⟨by rfl, rfl⟩) hS7 ?_
      try simp only [Act.put, List.setIfInBounds_toArray, List.set_cons_zero, List.set_cons_succ]
      refine take_at 11 (some 48) undef rfl rfl (by kernel_rfl) (by kernel_rfl) (by kernel_rfl) (fun _ _ _ h => h) (.inr ⟨by rfl, rfl⟩) hS7 ?_
      try simp only [Act.put, List.setIfInBounds_toArray, List.set_cons_zero, List.set_cons_succ]
      refine take_at 12 (some 49) undef rfl rfl (by kernel_rfl) (by kernel_rfl) (by kernel_rfl) (fun _ _ _ h => h) (.inr ⟨by rfl, rfl⟩) hS7 ?_
      try simp only [Act.put, List.setIfInBounds_toArray, List.set_cons_zero, List.set_cons_succ]
      refine take_at 13 (some 50) undef rfl rfl (by kernel_rfl) (by kernel_rfl) (by kernel_rfl) (fun _ _ _ h => h) (.inr ⟨by rfl, rfl⟩) hS7 ?_
      try simp only [Act.put, List.setIfInBounds_toArray, List.set_cons_zero, List.set_cons_succ]
      refine take_at 14 (some 51) (.bool true) rfl rfl (by kernel_rfl) (by kernel_rfl) (by kernel_rfl) (fun _ _ _ h => h) (.inl ⟨by rfl, fun w' hS => ?_⟩) hS7 ?_
      · go_simp
      try simp only [Act.put, List.setIfInBounds_toArray, List.set_cons_zero, List.set_cons_succ]
      refine wpAnyH_done (by kernel_rfl) ?_ _
      refine NoPanic.normal ?_
      clear hS7
      have R9d := Lib.hid (R9.out.below (Keeps.drew (fun _ => False) _))
      have F9d := Lib.hid (frame_step F9.out.1 F9.out.2 (Keeps.drew (fun b => ro6 b ≠ 0) _) (Grow.refl _ _))
      clear c0 c33
      go_wp2_with fail
      refine (forget_X R9d.out (by omega)).mono ?_
      rintro e wF ⟨rfl, roF, hRF, hKF, hGF⟩
      have hFF := frame_step F9d.out.1 F9d.out.2 hKF hGF
      have HRT := Lib.hid hRF
      have HFT := Lib.hid hFF
      clear hRF hFF hKF hGF
      go_wp2
      refine leaves_cons (f := 29) (args := #[.pointer (some ⟨r, 0, none⟩)]) (by simp) (by simp [go_sem]) ?_
      refine (trim_deferred .returning HRT.out (by first | omega | (simp; omega)) (by first | omega | (simp; omega))).mono ?_
      rintro e u' w'' ⟨rfl, rfl, hRf, hKf⟩
      have hFf := frame_step HFT.out.1 HFT.out.2 hKf (Grow.refl _ _)
      refine ⟨_, results_tmp rfl _ _ _, rfl, _, en, ?_, hFf.1, hFf.2⟩
      rw [hm]
      exact hRf
    · obtain ⟨hfit, hcall⟩ := hB
      obtain ⟨sz, hsze⟩ : ∃ sz, b.length + 64 = sz := ⟨_, rfl⟩
      obtain ⟨vl, vp, hd⟩ := R9.out.head
      obtain ⟨vb, hbk, _⟩ := (R9.out.ents (en, (putIt k b none)) (by simp)).ex
      have c0 : w9.drew.cell? ⟨r, 0, none⟩ = some (.int .i64 lim) := hd.blk.cell (j := 0) rfl
      have c33 : w9.drew.cell? ⟨en, 33, none⟩ = some (.int .i64 (sz : Int)) := by rw [← hsze]; exact hbk.cell (ent_size (putIt k b none) vb)
      clear hd hbk
      have a1 : ¬ (lim : Int) < (sz : Int) := by omega
      have a1n : sz ≤ lim := by omega
      have HZ := Lib.hid hsze
      clear hsze
      have HCR := Lib.hid (hcall w9.drew ro6 en (R9.out.below (Keeps.drew (fun _ => False) _)))
      clear hcall
      cases ok with
      | false =>
        go_wp2
        have hS7 : w9.drew.cell? ⟨en, 33, none⟩ = some (.int .i64 (sz : Int)) ∧ w9.drew.cell? ⟨r, 0, none⟩ = some (.int .i64 lim) := ⟨c33, c0⟩
        refine wp_region_noPanic ?_
        refine wp_region_held_drew (S := fun w' => w'.cell? ⟨en, 33, none⟩ = some (.int .i64 (sz : Int)) ∧ w'.cell? ⟨r, 0, none⟩ = some (.int .i64 lim)) (by kernel_rfl) hS7 (fun _ => ?_)
        refine take_at 0 (some 37) (.pointer (some ⟨en, 0, none⟩)) rfl rfl (by kernel_rfl) (by kernel_rfl) (by kernel_rfl) (fun _ _ _ h => h) (.inl ⟨by rfl, fun w' hS => ?_⟩) hS7 ?_
        · go_simp
        try simp only [Act.put, List.setIfInBounds_toArray, List.set_cons_zero, List.set_cons_succ]
        refine take_at 1 (some 38) (.pointer (some ⟨en, 0, none⟩)) rfl rfl (by kernel_rfl) (by kernel_rfl) (by kernel_rfl) (fun _ _ _ h => h) (.inl ⟨by rfl, fun w' hS => ?_⟩) hS7 ?_
        · go_simp
        try simp only [Act.put, List.setIfInBounds_toArray, List.set_cons_zero, List.set_cons_succ]
        refine take_at 2 (some 39) (.pointer (some ⟨en, 33, none⟩)) rfl rfl (by kernel_rfl) (by kernel_rfl) (by kernel_rfl) (fun _ _ _ h => h) (.inl ⟨by rfl, fun w' hS => ?_⟩) hS7 ?_
        · go_simp
        try simp only [Act.put, List.setIfInBounds_toArray, List.set_cons_zero, List.set_cons_succ]
        refine take_at 3 (some 40) (.int .i64 sz) rfl rfl (by kernel_rfl) (by kernel_rfl) (by kernel_rfl) (fun _ _ _ h => h) (.inl ⟨by rfl, fun w' hS => ?_⟩) hS7 ?_
        · have := hS.1
          go_simp
        try simp only [Act.put, List.setIfInBounds_toArray, List.set_cons_zero, List.set_cons_succ]
        refine take_at 4 (some 41) (.pointer (some ⟨r, 0, none⟩)) rfl rfl (by kernel_rfl) (by kernel_rfl) (by kernel_rfl) (fun _ _ _ h => h) (.inl ⟨by rfl, fun w' hS => ?_⟩) hS7 ?_
        · go_simp
        try simp only [Act.put, List.setIfInBounds_toArray, List.set_cons_zero, List.set_cons_succ]
        refine take_at 5 (some 42) (.pointer (some ⟨r, 0, none⟩)) rfl rfl (by kernel_rfl) (by kernel_rfl) (by kernel_rfl) (fun _ _ _ h => h) (.inl ⟨by rfl, fun w' hS => ?_⟩) hS7 ?_
        · go_simp
        try simp only [Act.put, List.setIfInBounds_toArray, List.set_cons_zero, List.set_cons_succ]
        refine take_at 6 (some 43) (.pointer (some ⟨r, 0, none⟩)) rfl rfl (by kernel_rfl) (by kernel_rfl) (by kernel_rfl) (fun _ _ _ h => h) (.inl ⟨by rfl, fun w' hS => ?_⟩) hS7 ?_
        · go_simp
        try simp only [Act.put, List.setIfInBounds_toArray, List.set_cons_zero, List.set_cons_succ]
        refine take_at 7 (some 44) (.int .i64 lim) rfl rfl (by kernel_rfl) (by kernel_rfl) (by kernel_rfl) (fun _ _ _ h => h) (.inl ⟨by rfl, fun w' hS => ?_⟩) hS7 ?_
        · have := hS.2
          go_simp
        try simp only [Act.put, List.setIfInBounds_toArray, List.set_cons_zero, List.set_cons_succ]
        refine take_at 8 (some 45) (.bool false) rfl rfl (by kernel_rfl) (by kernel_rfl) (by kernel_rfl) (fun _ _ _ h => h) (.inl ⟨by rfl, fun w' hS => ?_⟩) hS7 ?_
        · go_simp
        try simp only [Act.put, List.setIfInBounds_toArray, List.set_cons_zero, List.set_cons_succ]
        refine take_at 9 (some 46) (.bool false) rfl rfl (by kernel_rfl) (by kernel_rfl) (by kernel_rfl) (fun _ _ _ h => h) (.inl ⟨by rfl, fun w' hS => ?_⟩) hS7 ?_
        · go_simp
        try simp only [Act.put, List.setIfInBounds_toArray, List.set_cons_zero, List.set_cons_succ]
        refine take_at 10 (some 47) (.pointer (some ⟨r, 0, none⟩)) rfl rfl (by kernel_rfl) (by kernel_rfl) (by kernel_rfl) (fun _ _ _ h => h) (.inl ⟨by rfl, fun w' hS => ?_⟩) hS7 ?_
        · go_simp
        try simp only [Act.put, List.setIfInBounds_toArray, List.set_cons_zero, List.set_cons_succ]
        refine take_at 11 (some 48) (.pointer (some ⟨en, 0, none⟩)) rfl rfl (by kernel_rfl) (by kernel_rfl) (by kernel_rfl) (fun _ _ _ h => h) (.inl ⟨by rfl, fun w' hS => ?_⟩) hS7 ?_
        · go_simp
        try simp only [Act.put, List.setIfInBounds_toArray, List.set_cons_zero, List.set_cons_succ]
        refine wpAnyH_all (rs := [12]) (by kernel_rfl) (by simp) ?_
        intro i12 hi12
        obtain rfl : i12 = 12 := by simpa using hi12
        refine call_atG (some 49) rfl rfl rfl 35 #[.pointer (some ⟨r, 0, none⟩), .pointer (some ⟨en, 0, none⟩)] ?_ ?_
        · go_simp
        refine HCR.out.mono ?_
        rintro e w10 ⟨ro10, rfl, hR10, hK10, hG10⟩
        obtain ⟨vl2, vp2, hd2⟩ := hR10.head
        obtain ⟨vb2, hbk2, _⟩ := (hR10.ents (en, (putIt k b none)) (by simp)).ex
        have d0 : w10.cell? ⟨r, 0, none⟩ = some (.int .i64 lim) := hd2.blk.cell (j := 0) rfl
        have d33 : w10.cell? ⟨en, 33, none⟩ = some (.int .i64 (sz : Int)) := (hbk2.cell (ent_size (putIt k b none) vb2)).trans (by rw [← HZ.out]; rfl)
        have hS8 : w10.cell? ⟨en, 33, none⟩ = some (.int .i64 (sz : Int)) ∧ w10.cell? ⟨r, 0, none⟩ = some (.int .i64 lim) := ⟨d33, d0⟩
        refine ⟨_, rfl, hS8, ?_⟩
        try simp only [Act.put, List.setIfInBounds_toArray, List.set_cons_zero, List.set_cons_succ]
        refine take_at 13 (some 50) (.bool true) rfl rfl (by kernel_rfl) (by kernel_rfl) (by kernel_rfl) (fun _ _ _ h => h) (.inl ⟨by rfl, fun w' hS => ?_⟩) hS8 ?_
        · go_simp
        try simp only [Act.put, List.setIfInBounds_toArray, List.set_cons_zero, List.set_cons_succ]
        refine take_at 14 (some 51) (.bool true) rfl rfl (by kernel_rfl) (by kernel_rfl) (by kernel_rfl) (fun _ _ _ h => h) (.inl ⟨by rfl, fun w' hS => ?_⟩) hS8 ?_
        · go_simp
        try simp only [Act.put, List.setIfInBounds_toArray, List.set_cons_zero, List.set_cons_succ]
        refine wpAnyH_done (by kernel_rfl) ?_ _
        refine NoPanic.normal ?_
        clear hS7 hS8
        have R10 := Lib.hid hR10
        have F10 := Lib.hid (frame_step (frame_step F9.out.1 F9.out.2 (Keeps.drew (fun b => ro6 b ≠ 0) _) (Grow.refl _ _)).1 (frame_step F9.out.1 F9.out.2 (Keeps.drew (fun b => ro6 b ≠ 0) _) (Grow.refl _ _)).2 hK10 hG10)
        clear hR10 hK10 hG10 d0 d33 hd2 hbk2 c0 c33
        go_wp2_with fail
        refine (forget_X R10.out (by omega)).mono ?_
        rintro e wF ⟨rfl, roF, hRF, hKF, hGF⟩
        have hFF := frame_step F10.out.1 F10.out.2 hKF hGF
        have HRT := Lib.hid hRF
        have HFT := Lib.hid hFF
        clear hRF hFF hKF hGF
        go_wp2
        refine leaves_cons (f := 29) (args := #[.pointer (some ⟨r, 0, none⟩)]) (by simp) (by simp [go_sem]) ?_
        refine (trim_deferred .returning HRT.out (by first | omega | (simp; omega)) (by first | omega | (simp; omega))).mono ?_
        rintro e u' w'' ⟨rfl, rfl, hRf, hKf⟩
        have hFf := frame_step HFT.out.1 HFT.out.2 hKf (Grow.refl _ _)
        refine ⟨_, results_tmp rfl _ _ _, rfl, _, en, ?_, hFf.1, hFf.2⟩
        rw [hm]
        exact hRf
      | true =>
        go_wp2
        have hS7 : w9.drew.cell? ⟨en, 33, none⟩ = some (.int .i64 (sz : Int)) ∧ w9.drew.cell? ⟨r, 0, none⟩ = some (.int .i64 lim) := ⟨c33, c0⟩
        refine wp_region_noPanic ?_
        refine wp_region_held_drew (S := fun w' => w'.cell? ⟨en, 33, none⟩ = some (.int .i64 (sz : Int)) ∧ w'.cell? ⟨r, 0, none⟩ = some (.int .i64 lim)) (by kernel_rfl) hS7 (fun _ => ?_)
        refine take_at 0 (some 37) (.pointer (some ⟨en, 0, none⟩)) rfl rfl (by kernel_rfl) (by kernel_rfl) (by kernel_rfl) (fun _ _ _ h => h) (.inl ⟨by rfl, fun w' hS => ?_⟩) hS7 ?_
        · go_simp
        try simp only [Act.put, List.setIfInBounds_toArray, List.set_cons_zero, List.set_cons_succ]
        refine take_at 1 (some 38) (.pointer (some ⟨en, 0, none⟩)) rfl rfl (by kernel_rfl) (by kernel_rfl) (by kernel_rfl) (fun _ _ _ h => h) (.inl ⟨by rfl, fun w' hS => ?_⟩) hS7 ?_
        · go_simp
        try simp only [Act.put, List.setIfInBounds_toArray, List.set_cons_zero, List.set_cons_succ]
        refine take_at 2 (some 39) (.pointer (some ⟨en, 33, none⟩)) rfl rfl (by kernel_rfl) (by kernel_rfl) (by kernel_rfl) (fun _ _ _ h => h) (.inl ⟨by rfl, fun w' hS => ?_⟩) hS7 ?_
        · go_simp
        try simp only [Act.put, List.setIfInBounds_toArray, List.set_cons_zero, List.set_cons_succ]
        refine take_at 3 (some 40) (.int .i64 sz) rfl rfl (by kernel_rfl) (by kernel_rfl) (by kernel_rfl) (fun _ _ _ h => h) (.inl ⟨by rfl, fun w' hS => ?_⟩) hS7 ?_
        · have := hS.1
          go_simp
        try simp only [Act.put, List.setIfInBounds_toArray, List.set_cons_zero, List.set_cons_succ]
        refine take_at 4 (some 41) (.pointer (some ⟨r, 0, none⟩)) rfl rfl (by kernel_rfl) (by kernel_rfl) (by kernel_rfl) (fun _ _ _ h => h) (.inl ⟨by rfl, fun w' hS => ?_⟩) hS7 ?_
        · go_simp
        try simp only [Act.put, List.setIfInBounds_toArray, List.set_cons_zero, List.set_cons_succ]
        refine take_at 5 (some 42) (.pointer (some ⟨r, 0, none⟩)) rfl rfl (by kernel_rfl) (by kernel_rfl) (by kernel_rfl) (fun _ _ _ h => h) (.inl ⟨by rfl, fun w' hS => ?_⟩) hS7 ?_
        · go_simp
        try simp only [Act.put, List.setIfInBounds_toArray, List.set_cons_zero, List.set_cons_succ]
        refine take_at 6 (some 43) (.pointer (some ⟨r, 0, none⟩)) rfl rfl (by kernel_rfl) (by kernel_rfl) (by kernel_rfl) (fun _ _ _ h => h) (.inl ⟨by rfl, fun w' hS => ?_⟩) hS7 ?_
        · go_simp
        try simp only [Act.put, List.setIfInBounds_toArray, List.set_cons_zero, List.set_cons_succ]
        refine take_at 7 (some 44) (.int .i64 lim) rfl rfl (by kernel_rfl) (by kernel_rfl) (by kernel_rfl) (fun _ _ _ h => h) (.inl ⟨by rfl, fun w' hS => ?_⟩) hS7 ?_
        · have := hS.2
          go_simp
        try simp only [Act.put, List.setIfInBounds_toArray, List.set_cons_zero, List.set_cons_succ]
        refine take_at 8 (some 45) (.bool false) rfl rfl (by kernel_rfl) (by kernel_rfl) (by kernel_rfl) (fun _ _ _ h => h) (.inl ⟨by rfl, fun w' hS => ?_⟩) hS7 ?_
        · go_simp
        try simp only [Act.put, List.setIfInBounds_toArray, List.set_cons_zero, List.set_cons_succ]
        refine take_at 9 (some 46) (.bool false) rfl rfl (by kernel_rfl) (by kernel_rfl) (by kernel_rfl) (fun _ _ _ h => h) (.inl ⟨by rfl, fun w' hS => ?_⟩) hS7 ?_
        · go_simp
        try simp only [Act.put, List.setIfInBounds_toArray, List.set_cons_zero, List.set_cons_succ]
        refine take_at 10 (some 47) (.pointer (some ⟨r, 0, none⟩)) rfl rfl (by kernel_rfl) (by kernel_rfl) (by kernel_rfl) (fun _ _ _ h => h) (.inl ⟨by rfl, fun w' hS => ?_⟩) hS7 ?_
        · go_simp
        try simp only [Act.put, List.setIfInBounds_toArray, List.set_cons_zero, List.set_cons_succ]
        refine take_at 11 (some 48) (.pointer (some ⟨en, 0, none⟩)) rfl rfl (by kernel_rfl) (by kernel_rfl) (by kernel_rfl) (fun _ _ _ h => h) (.inl ⟨by rfl, fun w' hS => ?_⟩) hS7 ?_
        · go_simp
        try simp only [Act.put, List.setIfInBounds_toArray, List.set_cons_zero, List.set_cons_succ]
        refine wpAnyH_all (rs := [12]) (by kernel_rfl) (by simp) ?_
        intro i12 hi12
        obtain rfl : i12 = 12 := by simpa using hi12
        refine call_atG (some 49) rfl rfl rfl 35 #[.pointer (some ⟨r, 0, none⟩), .pointer (some ⟨en, 0, none⟩)] ?_ ?_
        · go_simp
        refine HCR.out.mono ?_
        rintro e w10 ⟨ro10, rfl, hR10, hK10, hG10⟩
        obtain ⟨vl2, vp2, hd2⟩ := hR10.head
        obtain ⟨vb2, hbk2, _⟩ := (hR10.ents (en, (putIt k b none)) (by simp)).ex
        have d0 : w10.cell? ⟨r, 0, none⟩ = some (.int .i64 lim) := hd2.blk.cell (j := 0) rfl
        have d33 : w10.cell? ⟨en, 33, none⟩ = some (.int .i64 (sz : Int)) := (hbk2.cell (ent_size (putIt k b none) vb2)).trans (by rw [← HZ.out]; rfl)
        have hS8 : w10.cell? ⟨en, 33, none⟩ = some (.int .i64 (sz : Int)) ∧ w10.cell? ⟨r, 0, none⟩ = some (.int .i64 lim) := ⟨d33, d0⟩
        refine ⟨_, rfl, hS8, ?_⟩
        try simp only [Act.put, List.setIfInBounds_toArray, List.set_cons_zero, List.set_cons_succ]
        refine take_at 13 (some 50) (.bool false) rfl rfl (by kernel_rfl) (by kernel_rfl) (by kernel_rfl) (fun _ _ _ h => h) (.inl ⟨by rfl, fun w' hS => ?_⟩) hS8 ?_
        · go_simp
        try simp only [Act.put, List.setIfInBounds_toArray, List.set_cons_zero, List.set_cons_succ]
        refine take_at 14 (some 51) (.bool false) rfl rfl (by kernel_rfl) (by kernel_rfl) (by kernel_rfl) (fun _ _ _ h => h) (.inl ⟨by rfl, fun w' hS => ?_⟩) hS8 ?_
        · go_simp
        try simp only [Act.put, List.setIfInBounds_toArray, List.set_cons_zero, List.set_cons_succ]
        refine wpAnyH_done (by kernel_rfl) ?_ _
        refine NoPanic.normal ?_
        clear hS7 hS8
        have R10 := Lib.hid hR10
        have F10 := Lib.hid (frame_step (frame_step F9.out.1 F9.out.2 (Keeps.drew (fun b => ro6 b ≠ 0) _) (Grow.refl _ _)).1 (frame_step F9.out.1 F9.out.2 (Keeps.drew (fun b => ro6 b ≠ 0) _) (Grow.refl _ _)).2 hK10 hG10)
        clear hR10 hK10 hG10 d0 d33 hd2 hbk2 c0 c33
        obtain ⟨vl3, vp3, hd3⟩ := R10.out.head
        obtain ⟨vb3, hbk3, _⟩ := (R10.out.ents (en, (putIt k b none)) (by simp)).ex
        have c1d : w10.drew.cell? ⟨r, 1, none⟩ = some (.int .i64 used2) := hd3.blk.cell (j := 1) rfl
        have c2d : w10.drew.cell? ⟨en, 33, none⟩ = some (.int .i64 (sz : Int)) := (hbk3.cell (ent_size (putIt k b none) vb3)).trans (by rw [← HZ.out]; rfl)
        have f1d : w10.drew.frozen? ⟨r, 1, none⟩ = false := hd3.blk.frozen 1
        have hz6 : sz ≤ 65600 := by have := HZ.out; omega
        obtain ⟨u2, hu2e⟩ : ∃ u2, used2 + sz = u2 := ⟨_, rfl⟩
        have e5 : IntKind.i64.wrap ((used2 : Int) + (sz : Int)) = (u2 : Int) := by rw [IntKind.wrap_i64]; omega
        have hU : u2 = putU true used2 (putIt k b none) := by rw [← hu2e, ← HZ.out]; rfl
        have hsu := R10.out.setUsed (used' := u2)
        have hF11 := frame_step F10.out.1 F10.out.2 (hsu.2.trans (Keeps.drew _ _)) (Grow.refl _ _)
        have HSU := Lib.hid (hsu.1.below (Keeps.drew (fun _ => False) _))
        have HF11 := Lib.hid hF11
        have HU := Lib.hid hU
        clear hsu hF11 hd3 hbk3 hU hu2e
        go_wp2
        refine wp_region_noPanic ?_
        go_region
        all_goals
          refine NoPanic.normal ?_
          clear c1d c2d f1d
          generalize (w10.setCell ⟨r, 1, none⟩ (.int .i64 (u2 : Int))).drew = w11 at *
          obtain ⟨vl4, vp4, hd4⟩ := HSU.out.head
          obtain ⟨v5, w12, hrun, hown, hk12, hbk12⟩ := push_core hd4.sl (by omega) en
          obtain ⟨ro13, g1, g2, g3⟩ := HSU.out.pushL hd4 hown hk12 hbk12
          have hF13 := frame_step HF11.out.1 HF11.out.2 g2 g3
          have c5 := hd4.blk.cell (j := 2) rfl
          have hb12 : Blk w12 r [.int .i64 lim, .int .i64 (u2 : Int), vl4, vp4] 56 := hd4.blk.keeps hk12 (fun e => by have := hd4.rl _ e; have := HSU.out.rr; omega)
          have c6 := hb12.cell (j := 2) rfl
          have f6 := hb12.frozen 2
          obtain ⟨wa, wc, rfl, _⟩ := hown.form
          obtain ⟨pa, pc, rfl, _⟩ := hd4.sl.form
          have HR := Lib.hid hrun
          rw [HU.out] at g1
          have HRG := Lib.hid g1
          have HFG := Lib.hid hF13
          clear hrun hown hk12 hbk12 g1 g2 g3 hd4 hb12 hF13
          clear HSU HF11 R10 F10 HCR HRM HOUT R9 F9 R8 F8 R6 G6 S6 K6 H HB HK HSZ HV HU
          go_wp2_with (first | (refine wpList_runAppend rfl (.tmp 70) (.tmp 72) 54 54 rfl (.slice wa (L2.length + 1) wc) w12 ?_ ?_; exact HR.out))
          have HRT := Lib.hid HRG.out
          have HFT := Lib.hid HFG.out
          go_wp2
          refine leaves_cons (f := 29) (args := #[.pointer (some ⟨r, 0, none⟩)]) (by simp) (by simp [go_sem]) ?_
          refine (trim_deferred .returning HRT.out (by first | omega | (simp; omega)) (by first | omega | (simp; omega))).mono ?_
          rintro e u' w'' ⟨rfl, rfl, hRf, hKf⟩
          have hFf := frame_step HFT.out.1 HFT.out.2 hKf (Grow.refl _ _)
          refine ⟨_, results_tmp rfl _ _ _, rfl, _, en, ?_, hFf.1, hFf.2⟩
          rw [hm]
          exact hRf
  | some q =>
    have hR7' : RamAt ro6 w7 r lim mu mL mP (q :: [(en, ⟨k, b, b.length + 64, 0⟩)]) := hR7
    obtain ⟨vq, hq, _⟩ := (hR7'.ents q (by simp)).ex
    have hqh := (hR7'.ents q (by simp)).h1
    have hR7l := hR7'.loose
    have hee := hR7l.ents (en, ⟨k, b, b.length + 64, 0⟩) (by simp)
    obtain ⟨vn, hnb, hnv, hnr⟩ := hee.ex
    have cq : w7.drew.cell? ⟨q.1, 34, none⟩ = some (.int .i64 q.2.hits) := hq.cell (ent_hits q.2 vq)
    have ce : w7.drew.cell? ⟨en, 34, none⟩ = some (.int .i64 ((0 : Nat) : Int)) := hnb.cell (ent_hits _ vn)
    have fe : w7.drew.frozen? ⟨en, 34, none⟩ = false := hnb.frozen 34
    have hnb2 : Blk (w7.drew.setCell ⟨en, 34, none⟩ (.int .i64 q.2.hits)) en (entV ⟨k, b, b.length + 64, q.2.hits⟩ vn) 65 := hnb.drew.setCell 34 _
    have hkk : Keeps (fun b => b = en) w7 (w7.drew.setCell ⟨en, 34, none⟩ (.int .i64 q.2.hits)) := (Keeps.drew _ _).trans (Keeps.setCell _ _ _ (fun _ => rfl))
    have hR8 := hR7l.setX (x := ⟨k, b, b.length + 64, q.2.hits⟩) vn hnb2 hkk hnv hnr hqh hee.s1 hee.b1
    have hK8 := hR7l.keepsR (p := (en, ⟨k, b, b.length + 64, 0⟩)) (by simp) hkk
    have R8 := Lib.hid hR8
    have F8 := Lib.hid (frame_step (frame_step (K6.out.mono (fun _ h => h.elim)) G6.out hK7 (Grow.refl _ _)).1 (frame_step (K6.out.mono (fun _ h => h.elim)) G6.out hK7 (Grow.refl _ _)).2 hK8 (Grow.refl _ _))
    clear hR7 hR7' hq hR7l hee hnb hnv hnr hnb2 hkk hR8 hK8 hK7 hqh
    simp only [ptrO]
    go_wp2
    go_region_held3 (fun _ => True) (trivial)
      (first
        | (go_at_call 33; refine (load_cell cq).mono ?_; rintro r w1 ⟨rfl, rfl⟩)
        | (go_at_call 32; refine (store_cell ce fe _).mono ?_; rintro r w1 ⟨rfl, rfl⟩))
    clear cq ce fe
    go_wp2_with fail
    refine (hit_X R8.out).mono ?_
    rintro e w9 ⟨rfl, hR9, hK9⟩
    have R9 : Hid (RamAt ro6 w9 r lim mu mL mP [(en, putIt k b (some q))]) := Lib.hid hR9
    have F9 := Lib.hid (frame_step F8.out.1 F8.out.2 hK9 (Grow.refl _ _))
    clear hR9 hK9
    rcases HRM.out with hA | hB
    · obtain ⟨hbig, rfl, rfl, rfl, rfl⟩ := hA
      obtain ⟨sz, hsze⟩ : ∃ sz, b.length + 64 = sz := ⟨_, rfl⟩
      obtain ⟨vl, vp, hd⟩ := R9.out.head
      obtain ⟨vb, hbk, _⟩ := (R9.out.ents (en, (putIt k b (some q))) (by simp)).ex
      have c0 : w9.drew.cell? ⟨r, 0, none⟩ = some (.int .i64 lim) := hd.blk.cell (j := 0) rfl
      have c33 : w9.drew.cell? ⟨en, 33, none⟩ = some (.int .i64 (sz : Int)) := by rw [← hsze]; exact hbk.cell (ent_size (putIt k b (some q)) vb)
      clear hd hbk
      have a1 : (lim : Int) < (sz : Int) := by omega
      have HZ := Lib.hid hsze
      clear hsze
      go_wp2
      have hS7 : w9.drew.cell? ⟨en, 33, none⟩ = some (.int .i64 (sz : Int)) ∧ w9.drew.cell? ⟨r, 0, none⟩ = some (.int .i64 lim) := ⟨c33, c0⟩
      refine wp_region_noPanic ?_
      refine wp_region_held_drew (S := fun w' => w'.cell? ⟨en, 33, none⟩ = some (.int .i64 (sz : Int)) ∧ w'.cell? ⟨r, 0, none⟩ = some (.int .i64 lim)) (by kernel_rfl) hS7 (fun _ => ?_)
      refine take_at 0 (some 37) (.pointer (some ⟨en, 0, none⟩)) rfl rfl (by kernel_rfl) (by kernel_rfl) (by kernel_rfl) (fun _ _ _ h => h) (.inl ⟨by rfl, fun w' hS => ?_⟩) hS7 ?_
      · go_simp
      try simp only [Act.put, List.setIfInBounds_toArray, List.set_cons_zero, List.set_cons_succ]
      refine take_at 1 (some 38) (.pointer (some ⟨en, 0, none⟩)) rfl rfl (by kernel_rfl) (by kernel_rfl) (by kernel_rfl) (fun _ _ _ h => h) (.inl ⟨by rfl, fun w' hS => ?_⟩) hS7 ?_
      · go_simp
      try simp only [Act.put, List.setIfInBounds_toArray, List.set_cons_zero, List.set_cons_succ]
      refine take_at 2 (some 39) (.pointer (some ⟨en, 33, none⟩)) rfl rfl (by kernel_rfl) (by kernel_rfl) (by kernel_rfl) (fun _ _ _ h => h) (.inl ⟨by rfl, fun w' hS => ?_⟩) hS7 ?_
      · go_simp
      try simp only [Act.put, List.setIfInBounds_toArray, List.set_cons_zero, List.set_cons_succ]
      refine take_at 3 (some 40) (.int .i64 sz) rfl rfl (by kernel_rfl) (by kernel_rfl) (by kernel_rfl) (fun _ _ _ h => h) (.inl ⟨by rfl, fun w' hS => ?_⟩) hS7 ?_
      · have := hS.1
        go_simp
      try simp only [Act.put, List.setIfInBounds_toArray, List.set_cons_zero, List.set_cons_succ]
      refine take_at 4 (some 41) (.pointer (some ⟨r, 0, none⟩)) rfl rfl (by kernel_rfl) (by kernel_rfl) (by kernel_rfl) (fun _ _ _ h => h) (.inl ⟨by rfl, fun w' hS => ?_⟩) hS7 ?_
      · go_simp
      try simp only [Act.put, List.setIfInBounds_toArray, List.set_cons_zero, List.set_cons_succ]
      refine take_at 5 (some 42) (.pointer (some ⟨r, 0, none⟩)) rfl rfl (by kernel_rfl) (by kernel_rfl) (by kernel_rfl) (fun _ _ _ h => h) (.inl ⟨by rfl, fun w' hS => ?_⟩) hS7 ?_
      · go_simp
      try simp only [Act.put, List.setIfInBounds_toArray, List.set_cons_zero, List.set_cons_succ]
      refine take_at 6 (some 43) (.pointer (some ⟨r, 0, none⟩)) rfl rfl (by kernel_rfl) (by kernel_rfl) (by kernel_rfl) (fun _ _ _ h => h) (.inl ⟨by rfl, fun w' hS => ?_⟩) hS7 ?_
      · go_simp
      try simp only [Act.put, List.setIfInBounds_toArray, List.set_cons_zero, List.set_cons_succ]
      refine take_at 7 (some 44) (.int .i64 lim) rfl rfl (by kernel_rfl) (by kernel_rfl) (by kernel_rfl) (fun _ _ _ h => h) (.inl ⟨by rfl, fun w' hS => ?_⟩) hS7 ?_
      · have := hS.2
        go_simp
      try simp only [Act.put, List.setIfInBounds_toArray, List.set_cons_zero, List.set_cons_succ]
      refine take_at 8 (some 45) (.bool true) rfl rfl (by kernel_rfl) (by kernel_rfl) (by kernel_rfl) (fun _ _ _ h => h) (.inl ⟨by rfl, fun w' hS => ?_⟩) hS7 ?_
      · go_simp
      try simp only [Act.put, List.setIfInBounds_toArray, List.set_cons_zero, List.set_cons_succ]
      refine take_at 9 (some 46) (.bool true) rfl rfl (by kernel_rfl) (by kernel_rfl) (by kernel_rfl) (fun _ _ _ h => h) (.inl ⟨by rfl, fun w' hS => ?_⟩) hS7 ?_
      · go_simp
      try simp only [Act.put, List.setIfInBounds_toArray, List.set_cons_zero, List.set_cons_succ]
      refine take_at 10 (some 47) undef rfl rfl (by kernel_rfl) (by kernel_rfl) (by kernel_rfl) (fun _ _ _ h => h) (.inr ⟨by rfl, rfl⟩) hS7 ?_
      try simp only [Act.put, List.setIfInBounds_toArray, List.set_cons_zero, List.set_cons_succ]
      refine take_at 11 (some 48) undef rfl rfl (by kernel_rfl) (by kernel_rfl) (by kernel_rfl) (fun _ _ _ h => h) (.inr ⟨by rfl, rfl⟩) hS7 ?_
      try simp only [Act.put, List.setIfInBounds_toArray, List.set_cons_zero, List.set_cons_succ]
      refine take_at 12 (some 49) undef rfl rfl (by kernel_rfl) (by kernel_rfl) (by kernel_rfl) (fun _ _ _ h => h) (.inr ⟨by rfl, rfl⟩) hS7 ?_
      try simp only [Act.put, List.setIfInBounds_toArray, List.set_cons_zero, List.set_cons_succ]
      refine take_at 13 (some 50) undef rfl rfl (by kernel_rfl) (by kernel_rfl) (by kernel_rfl) (fun _ _ _ h => h) (.inr ⟨by rfl, rfl⟩) hS7 ?_
      try simp only [Act.put, List.setIfInBounds_toArray, List.set_cons_zero, List.set_cons_succ]
      refine take_at 14 (some 51) (.bool true) rfl rfl (by kernel_rfl) (by kernel_rfl) (by kernel_rfl) (fun _ _ _ h => h) (.inl ⟨by rfl, fun w' hS => ?_⟩) hS7 ?_
      · go_simp
      try simp only [Act.put, List.setIfInBounds_toArray, List.set_cons_zero, List.set_cons_succ]
      refine wpAnyH_done (by kernel_rfl) ?_ _
      refine NoPanic.normal ?_
      clear hS7
      have R9d := Lib.hid (R9.out.below (Keeps.drew (fun _ => False) _))
      have F9d := Lib.hid (frame_step F9.out.1 F9.out.2 (Keeps.drew (fun b => ro6 b ≠ 0) _) (Grow.refl _ _))
      clear c0 c33
      go_wp2_with fail
      refine (forget_X R9d.out (by omega)).mono ?_
      rintro e wF ⟨rfl, roF, hRF, hKF, hGF⟩
      have hFF := frame_step F9d.out.1 F9d.out.2 hKF hGF
      have HRT := Lib.hid hRF
      have HFT := Lib.hid hFF
      clear hRF hFF hKF hGF
      go_wp2
      refine leaves_cons (f := 29) (args := #[.pointer (some ⟨r, 0, none⟩)]) (by simp) (by simp [go_sem]) ?_
      refine (trim_deferred .returning HRT.out (by first | omega | (simp; omega)) (by first | omega | (simp; omega))).mono ?_
      rintro e u' w'' ⟨rfl, rfl, hRf, hKf⟩
      have hFf := frame_step HFT.out.1 HFT.out.2 hKf (Grow.refl _ _)
      refine ⟨_, results_tmp rfl _ _ _, rfl, _, en, ?_, hFf.1, hFf.2⟩
      rw [hm]
      exact hRf
    · obtain ⟨hfit, hcall⟩ := hB
      obtain ⟨sz, hsze⟩ : ∃ sz, b.length + 64 = sz := ⟨_, rfl⟩
      obtain ⟨vl, vp, hd⟩ := R9.out.head
      obtain ⟨vb, hbk, _⟩ := (R9.out.ents (en, (putIt k b (some q))) (by simp)).ex
      have c0 : w9.drew.cell? ⟨r, 0, none⟩ = some (.int .i64 lim) := hd.blk.cell (j := 0) rfl
      have c33 : w9.drew.cell? ⟨en, 33, none⟩ = some (.int .i64 (sz : Int)) := by rw [← hsze]; exact hbk.cell (ent_size (putIt k b (some q)) vb)
      clear hd hbk
      have a1 : ¬ (lim : Int) < (sz : Int) := by omega
      have a1n : sz ≤ lim := by omega
      have HZ := Lib.hid hsze
      clear hsze
      have HCR := Lib.hid (hcall w9.drew ro6 en (R9.out.below (Keeps.drew (fun _ => False) _)))
      clear hcall
      cases ok with
      | false =>
        go_wp2
        have hS7 : w9.drew.cell? ⟨en, 33, none⟩ = some (.int .i64 (sz : Int)) ∧ w9.drew.cell? ⟨r, 0, none⟩ = some (.int .i64 lim) := ⟨c33, c0⟩
        refine wp_region_noPanic ?_
        refine wp_region_held_drew (S := fun w' => w'.cell? ⟨en, 33, none⟩ = some (.int .i64 (sz : Int)) ∧ w'.cell? ⟨r, 0, none⟩ = some (.int .i64 lim)) (by kernel_rfl) hS7 (fun _ => ?_)
        refine take_at 0 (some 37) (.pointer (some ⟨en, 0, none⟩)) rfl rfl (by kernel_rfl) (by kernel_rfl) (by kernel_rfl) (fun _ _ _ h => h) (.inl ⟨by rfl, fun w' hS => ?_⟩) hS7 ?_
        · go_simp
        try simp only [Act.put, List.setIfInBounds_toArray, List.set_cons_zero, List.set_cons_succ]
        refine take_at 1 (some 38) (.pointer (some ⟨en, 0, none⟩)) rfl rfl (by kernel_rfl) (by kernel_rfl) (by kernel_rfl) (fun _ _ _ h => h) (.inl ⟨by rfl, fun w' hS => ?_⟩) hS7 ?_
        · go_simp
        try simp only [Act.put, List.setIfInBounds_toArray, List.set_cons_zero, List.set_cons_succ]
        refine take_at 2 (some 39) (.pointer (some ⟨en, 33, none⟩)) rfl rfl (by kernel_rfl) (by kernel_rfl) (by kernel_rfl) (fun _ _ _ h => h) (.inl ⟨by rfl, fun w' hS => ?_⟩) hS7 ?_
        · go_simp
        try simp only [Act.put, List.setIfInBounds_toArray, List.set_cons_zero, List.set_cons_succ]
        refine take_at 3 (some 40) (.int .i64 sz) rfl rfl (by kernel_rfl) (by kernel_rfl) (by kernel_rfl) (fun _ _ _ h => h) (.inl ⟨by rfl, fun w' hS => ?_⟩) hS7 ?_
        · have := hS.1
          go_simp
        try simp only [Act.put, List.setIfInBounds_toArray, List.set_cons_zero, List.set_cons_succ]
        refine take_at 4 (some 41) (.pointer (some ⟨r, 0, none⟩)) rfl rfl (by kernel_rfl) (by kernel_rfl) (by kernel_rfl) (fun _ _ _ h => h) (.inl ⟨by rfl, fun w' hS => ?_⟩) hS7 ?_
        · go_simp
        try simp only [Act.put, List.setIfInBounds_toArray, List.set_cons_zero, List.set_cons_succ]
        refine take_at 5 (some 42) (.pointer (some ⟨r, 0, none⟩)) rfl rfl (by kernel_rfl) (by kernel_rfl) (by kernel_rfl) (fun _ _ _ h => h) (.inl ⟨by rfl, fun w' hS => ?_⟩) hS7 ?_
        · go_simp
        try simp only [Act.put, List.setIfInBounds_toArray, List.set_cons_zero, List.set_cons_succ]
        refine take_at 6 (some 43) (.pointer (some ⟨r, 0, none⟩)) rfl rfl (by kernel_rfl) (by kernel_rfl) (by kernel_rfl) (fun _ _ _ h => h) (.inl ⟨by rfl, fun w' hS => ?_⟩) hS7 ?_
        · go_simp
        try simp only [Act.put, List.setIfInBounds_toArray, List.set_cons_zero, List.set_cons_succ]
        refine take_at 7 (some 44) (.int .i64 lim) rfl rfl (by kernel_rfl) (by kernel_rfl) (by kernel_rfl) (fun _ _ _ h => h) (.inl ⟨by rfl, fun w' hS => ?_⟩) hS7 ?_
        · have := hS.2
          go_simp
        try simp only [Act.put, List.setIfInBounds_toArray, List.set_cons_zero, List.set_cons_succ]
        refine take_at 8 (some 45) (.bool false) rfl rfl (by kernel_rfl) (by kernel_rfl) (by kernel_rfl) (fun _ _ _ h => h) (.inl ⟨by rfl, fun w' hS => ?_⟩) hS7 ?_
        · go_simp
        try simp only [Act.put, List.setIfInBounds_toArray, List.set_cons_zero, List.set_cons_succ]
        refine take_at 9 (some 46) (.bool false) rfl rfl (by kernel_rfl) (by kernel_rfl) (by kernel_rfl) (fun _ _ _ h => h) (.inl ⟨by rfl, fun w' hS => ?_⟩) hS7 ?_
        · go_simp
        try simp only [Act.put, List.setIfInBounds_toArray, List.set_cons_zero, List.set_cons_succ]
        refine take_at 10 (some 47) (.pointer (some ⟨r, 0, none⟩)) rfl rfl (by kernel_rfl) (by kernel_rfl) (by kernel_rfl) (fun _ _ _ h => h) (.inl ⟨by rfl, fun w' hS => ?_⟩) hS7 ?_
        · go_simp
        try simp only [Act.put, List.setIfInBounds_toArray, List.set_cons_zero, List.set_cons_succ]
        refine take_at 11 (some 48) (.pointer (some ⟨en, 0, none⟩)) rfl rfl (by kernel_rfl) (by kernel_rfl) (by kernel_rfl) (fun _ _ _ h => h) (.inl ⟨by rfl, fun w' hS => ?_⟩) hS7 ?_
        · go_simp
        try simp only [Act.put, List.setIfInBounds_toArray, List.set_cons_zero, List.set_cons_succ]
        refine wpAnyH_all (rs := [12]) (by kernel_rfl) (by simp) ?_
        intro i12 hi12
        obtain rfl : i12 = 12 := by simpa using hi12
        refine call_atG (some 49) rfl rfl rfl 35 #[.pointer (some ⟨r, 0, none⟩), .pointer (some ⟨en, 0, none⟩)] ?_ ?_
        · go_simp
        refine HCR.out.mono ?_
        rintro e w10 ⟨ro10, rfl, hR10, hK10, hG10⟩
        obtain ⟨vl2, vp2, hd2⟩ := hR10.head
        obtain ⟨vb2, hbk2, _⟩ := (hR10.ents (en, (putIt k b (some q))) (by simp)).ex
        have d0 : w10.cell? ⟨r, 0, none⟩ = some (.int .i64 lim) := hd2.blk.cell (j := 0) rfl
        have d33 : w10.cell? ⟨en, 33, none⟩ = some (.int .i64 (sz : Int)) := (hbk2.cell (ent_size (putIt k b (some q)) vb2)).trans (by rw [← HZ.out]; rfl)
        have hS8 : w10.cell? ⟨en, 33, none⟩ = some (.int .i64 (sz : Int)) ∧ w10.cell? ⟨r, 0, none⟩ = some (.int .i64 lim) := ⟨d33, d0⟩
        refine ⟨_, rfl, hS8, ?_⟩
        try simp only [Act.put, List.setIfInBounds_toArray, List.set_cons_zero, List.set_cons_succ]
        refine take_at 13 (some 50) (.bool true) rfl rfl (by kernel_rfl) (by kernel_rfl) (by kernel_rfl) (fun _ _ _ h => h) (.inl ⟨by rfl, fun w' hS => ?_⟩) hS8 ?_
        · go_simp
        try simp only [Act.put, List.setIfInBounds_toArray, List.set_cons_zero, List.set_cons_succ]
        refine take_at 14 (some 51) (.bool true) rfl rfl (by kernel_rfl) (by kernel_rfl) (by kernel_rfl) (fun _ _ _ h => h) (.inl ⟨by rfl, fun w' hS => ?_⟩) hS8 ?_
        · go_simp
        try simp only [Act.put, List.setIfInBounds_toArray, List.set_cons_zero, List.set_cons_succ]
        refine wpAnyH_done (by kernel_rfl) ?_ _
        refine NoPanic.normal ?_
        clear hS7 hS8
        have R10 := Lib.hid hR10
        have F10 := Lib.hid (frame_step (frame_step F9.out.1 F9.out.2 (Keeps.drew (fun b => ro6 b ≠ 0) _) (Grow.refl _ _)).1 (frame_step F9.out.1 F9.out.2 (Keeps.drew (fun b => ro6 b ≠ 0) _) (Grow.refl _ _)).2 hK10 hG10)
        clear hR10 hK10 hG10 d0 d33 hd2 hbk2 c0 c33
        go_wp2_with fail
        refine (forget_X R10.out (by omega)).mono ?_
        rintro e wF ⟨rfl, roF, hRF, hKF, hGF⟩
        have hFF := frame_step F10.out.1 F10.out.2 hKF hGF
        have HRT := Lib.hid hRF
        have HFT := Lib.hid hFF
        clear hRF hFF hKF hGF
        go_wp2
        refine leaves_cons (f := 29) (args := #[.pointer (some ⟨r, 0, none⟩)]) (by simp) (by simp [go_sem]) ?_
        refine (trim_deferred .returning HRT.out (by first | omega | (simp; omega)) (by first | omega | (simp; omega))).mono ?_
        rintro e u' w'' ⟨rfl, rfl, hRf, hKf⟩
        have hFf := frame_step HFT.out.1 HFT.out.2 hKf (Grow.refl _ _)
        refine ⟨_, results_tmp rfl _ _ _, rfl, _, en, ?_, hFf.1, hFf.2⟩
        rw [hm]
        exact hRf
      | true =>
        go_wp2
        have hS7 : w9.drew.cell? ⟨en, 33, none⟩ = some (.int .i64 (sz : Int)) ∧ w9.drew.cell? ⟨r, 0, none⟩ = some (.int .i64 lim) := ⟨c33, c0⟩
        refine wp_region_noPanic ?_
        refine wp_region_held_drew (S := fun w' => w'.cell? ⟨en, 33, none⟩ = some (.int .i64 (sz : Int)) ∧ w'.cell? ⟨r, 0, none⟩ = some (.int .i64 lim)) (by kernel_rfl) hS7 (fun _ => ?_)
        refine take_at 0 (some 37) (.pointer (some ⟨en, 0, none⟩)) rfl rfl (by kernel_rfl) (by kernel_rfl) (by kernel_rfl) (fun _ _ _ h => h) (.inl ⟨by rfl, fun w' hS => ?_⟩) hS7 ?_
        · go_simp
        try simp only [Act.put, List.setIfInBounds_toArray, List.set_cons_zero, List.set_cons_succ]
        refine take_at 1 (some 38) (.pointer (some ⟨en, 0, none⟩)) rfl rfl (by kernel_rfl) (by kernel_rfl) (by kernel_rfl) (fun _ _ _ h => h) (.inl ⟨by rfl, fun w' hS => ?_⟩) hS7 ?_
        · go_simp
        try simp only [Act.put, List.setIfInBounds_toArray, List.set_cons_zero, List.set_cons_succ]
        refine take_at 2 (some 39) (.pointer (some ⟨en, 33, none⟩)) rfl rfl (by kernel_rfl) (by kernel_rfl) (by kernel_rfl) (fun _ _ _ h => h) (.inl ⟨by rfl, fun w' hS => ?_⟩) hS7 ?_
        · go_simp
        try simp only [Act.put, List.setIfInBounds_toArray, List.set_cons_zero, List.set_cons_succ]
        refine take_at 3 (some 40) (.int .i64 sz) rfl rfl (by kernel_rfl) (by kernel_rfl) (by kernel_rfl) (fun _ _ _ h => h) (.inl ⟨by rfl, fun w' hS => ?_⟩) hS7 ?_
        · have := hS.1
          go_simp
        try simp only [Act.put, List.setIfInBounds_toArray, List.set_cons_zero, List.set_cons_succ]
        refine take_at 4 (some 41) (.pointer (some ⟨r, 0, none⟩)) rfl rfl (by kernel_rfl) (by kernel_rfl) (by kernel_rfl) (fun _ _ _ h => h) (.inl ⟨by rfl, fun w' hS => ?_⟩) hS7 ?_
        · go_simp
        try simp only [Act.put, List.setIfInBounds_toArray, List.set_cons_zero, List.set_cons_succ]
        refine take_at 5 (some 42) (.pointer (some ⟨r, 0, none⟩)) rfl rfl (by kernel_rfl) (by kernel_rfl) (by kernel_rfl) (fun _ _ _ h => h) (.inl ⟨by rfl, fun w' hS => ?_⟩) hS7 ?_
        · go_simp
        try simp only [Act.put, List.setIfInBounds_toArray, List.set_cons_zero, List.set_cons_succ]
        refine take_at 6 (some 43) (.pointer (some ⟨r, 0, none⟩)) rfl rfl (by kernel_rfl) (by kernel_rfl) (by kernel_rfl) (fun _ _ _ h => h) (.inl ⟨by rfl, fun w' hS => ?_⟩) hS7 ?_
        · go_simp
        try simp only [Act.put, List.setIfInBounds_toArray, List.set_cons_zero, List.set_cons_succ]
        refine take_at 7 (some 44) (.int .i64 lim) rfl rfl (by kernel_rfl) (by kernel_rfl) (by kernel_rfl) (fun _ _ _ h => h) (.inl ⟨by rfl, fun w' hS => ?_⟩) hS7 ?_
        · have := hS.2
          go_simp
        try simp only [Act.put, List.setIfInBounds_toArray, List.set_cons_zero, List.set_cons_succ]
        refine take_at 8 (some 45) (.bool false) rfl rfl (by kernel_rfl) (by kernel_rfl) (by kernel_rfl) (fun _ _ _ h => h) (.inl ⟨by rfl, fun w' hS => ?_⟩) hS7 ?_
        · go_simp
        try simp only [Act.put, List.setIfInBounds_toArray, List.set_cons_zero, List.set_cons_succ]
        refine take_at 9 (some 46) (.bool false) rfl rfl (by kernel_rfl) (by kernel_rfl) (by kernel_rfl) (fun _ _ _ h => h) (.inl ⟨by rfl, fun w' hS => ?_⟩) hS7 ?_
        · go_simp
        try simp only [Act.put, List.setIfInBounds_toArray, List.set_cons_zero, List.set_cons_succ]
        refine take_at 10 (some 47) (.pointer (some ⟨r, 0, none⟩)) rfl rfl (by kernel_rfl) (by kernel_rfl) (by kernel_rfl) (fun _ _ _ h => h) (.inl ⟨by rfl, fun w' hS => ?_⟩) hS7 ?_
        · go_simp
        try simp only [Act.put, List.setIfInBounds_toArray, List.set_cons_zero, List.set_cons_succ]
        refine take_at 11 (some 48) (.pointer (some ⟨en, 0, none⟩)) rfl rfl (by kernel_rfl) (by kernel_rfl) (by kernel_rfl) (fun _ _ _ h => h) (.inl ⟨by rfl, fun w' hS => ?_⟩) hS7 ?_
        · go_simp
        try simp only [Act.put, List.setIfInBounds_toArray, List.set_cons_zero, List.set_cons_succ]
        refine wpAnyH_all (rs := [12]) (by kernel_rfl) (by simp) ?_
        intro i12 hi12
        obtain rfl : i12 = 12 := by simpa using hi12
        refine call_atG (some 49) rfl rfl rfl 35 #[.pointer (some ⟨r, 0, none⟩), .pointer (some ⟨en, 0, none⟩)] ?_ ?_
        · go_simp
        refine HCR.out.mono ?_
        rintro e w10 ⟨ro10, rfl, hR10, hK10, hG10⟩
        obtain ⟨vl2, vp2, hd2⟩ := hR10.head
        obtain ⟨vb2, hbk2, _⟩ := (hR10.ents (en, (putIt k b (some q))) (by simp)).ex
        have d0 : w10.cell? ⟨r, 0, none⟩ = some (.int .i64 lim) := hd2.blk.cell (j := 0) rfl
        have d33 : w10.cell? ⟨en, 33, none⟩ = some (.int .i64 (sz : Int)) := (hbk2.cell (ent_size (putIt k b (some q)) vb2)).trans (by rw [← HZ.out]; rfl)
        have hS8 : w10.cell? ⟨en, 33, none⟩ = some (.int .i64 (sz : Int)) ∧ w10.cell? ⟨r, 0, none⟩ = some (.int .i64 lim) := ⟨d33, d0⟩
        refine ⟨_, rfl, hS8, ?_⟩
        try simp only [Act.put, List.setIfInBounds_toArray, List.set_cons_zero, List.set_cons_succ]
        refine take_at 13 (some 50) (.bool false) rfl rfl (by kernel_rfl) (by kernel_rfl) (by kernel_rfl) (fun _ _ _ h => h) (.inl ⟨by rfl, fun w' hS => ?_⟩) hS8 ?_
        · go_simp
        try simp only [Act.put, List.setIfInBounds_toArray, List.set_cons_zero, List.set_cons_succ]
        refine take_at 14 (some 51) (.bool false) rfl rfl (by kernel_rfl) (by kernel_rfl) (by kernel_rfl) (fun _ _ _ h => h) (.inl ⟨by rfl, fun w' hS => ?_⟩) hS8 ?_
        · go_simp
        try simp only [Act.put, List.setIfInBounds_toArray, List.set_cons_zero, List.set_cons_succ]
        refine wpAnyH_done (by kernel_rfl) ?_ _
        refine NoPanic.normal ?_
        clear hS7 hS8
        have R10 := Lib.hid hR10
        have F10 := Lib.hid (frame_step (frame_step F9.out.1 F9.out.2 (Keeps.drew (fun b => ro6 b ≠ 0) _) (Grow.refl _ _)).1 (frame_step F9.out.1 F9.out.2 (Keeps.drew (fun b => ro6 b ≠ 0) _) (Grow.refl _ _)).2 hK10 hG10)
        clear hR10 hK10 hG10 d0 d33 hd2 hbk2 c0 c33
        obtain ⟨vl3, vp3, hd3⟩ := R10.out.head
        obtain ⟨vb3, hbk3, _⟩ := (R10.out.ents (en, (putIt k b (some q))) (by simp)).ex
        have c1d : w10.drew.cell? ⟨r, 1, none⟩ = some (.int .i64 used2) := hd3.blk.cell (j := 1) rfl
        have c2d : w10.drew.cell? ⟨en, 33, none⟩ = some (.int .i64 (sz : Int)) := (hbk3.cell (ent_size (putIt k b (some q)) vb3)).trans (by rw [← HZ.out]; rfl)
        have f1d : w10.drew.frozen? ⟨r, 1, none⟩ = false := hd3.blk.frozen 1
        have hz6 : sz ≤ 65600 := by have := HZ.out; omega
        obtain ⟨u2, hu2e⟩ : ∃ u2, used2 + sz = u2 := ⟨_, rfl⟩
        have e5 : IntKind.i64.wrap ((used2 : Int) + (sz : Int)) = (u2 : Int) := by rw [IntKind.wrap_i64]; omega
        have hU : u2 = putU true used2 (putIt k b (some q)) := by rw [← hu2e, ← HZ.out]; rfl
        have hsu := R10.out.setUsed (used' := u2)
        have hF11 := frame_step F10.out.1 F10.out.2 (hsu.2.trans (Keeps.drew _ _)) (Grow.refl _ _)
        have HSU := Lib.hid (hsu.1.below (Keeps.drew (fun _ => False) _))
        have HF11 := Lib.hid hF11
        have HU := Lib.hid hU
        clear hsu hF11 hd3 hbk3 hU hu2e
        go_wp2
        refine wp_region_noPanic ?_
        go_region
        all_goals
          refine NoPanic.normal ?_
          clear c1d c2d f1d
          generalize (w10.setCell ⟨r, 1, none⟩ (.int .i64 (u2 : Int))).drew = w11 at *
          obtain ⟨vl4, vp4, hd4⟩ := HSU.out.head
          obtain ⟨v5, w12, hrun, hown, hk12, hbk12⟩ := push_core hd4.sl (by omega) en
          obtain ⟨ro13, g1, g2, g3⟩ := HSU.out.pushL hd4 hown hk12 hbk12
          have hF13 := frame_step HF11.out.1 HF11.out.2 g2 g3
          have c5 := hd4.blk.cell (j := 2) rfl
          have hb12 : Blk w12 r [.int .i64 lim, .int .i64 (u2 : Int), vl4, vp4] 56 := hd4.blk.keeps hk12 (fun e => by have := hd4.rl _ e; have := HSU.out.rr; omega)
          have c6 := hb12.cell (j := 2) rfl
          have f6 := hb12.frozen 2
          obtain ⟨wa, wc, rfl, _⟩ := hown.form
          obtain ⟨pa, pc, rfl, _⟩ := hd4.sl.form
          have HR := Lib.hid hrun
          rw [HU.out] at g1
          have HRG := Lib.hid g1
          have HFG := Lib.hid hF13
          clear hrun hown hk12 hbk12 g1 g2 g3 hd4 hb12 hF13
          clear HSU HF11 R10 F10 HCR HRM HOUT R9 F9 R8 F8 R6 G6 S6 K6 H HB HK HSZ HV HU
          go_wp2_with (first | (refine wpList_runAppend rfl (.tmp 70) (.tmp 72) 54 54 rfl (.slice wa (L2.length + 1) wc) w12 ?_ ?_; exact HR.out))
          have HRT := Lib.hid HRG.out
          have HFT := Lib.hid HFG.out
          go_wp2
          refine leaves_cons (f := 29) (args := #[.pointer (some ⟨r, 0, none⟩)]) (by simp) (by simp [go_sem]) ?_
          refine (trim_deferred .returning HRT.out (by first | omega | (simp; omega)) (by first | omega | (simp; omega))).mono ?_
          rintro e u' w'' ⟨rfl, rfl, hRf, hKf⟩
          have hFf := frame_step HFT.out.1 HFT.out.2 hKf (Grow.refl _ _)
          refine ⟨_, results_tmp rfl _ _ _, rfl, _, en, ?_, hFf.1, hFf.2⟩
          rw [hm]
          exact hRf
end Go.Proofs.Ytpiijfknpliahaa
