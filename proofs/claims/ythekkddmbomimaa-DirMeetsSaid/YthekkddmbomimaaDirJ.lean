/- The contract of (*Dir).Delete: the last entry of that key and that place goes. Conditions: the receiver is a directory in memory; the key reads as bytes. -/
import Derived.Test.YthekkddmbomimaaDirI
namespace Go.Proofs.Ythekkddmbomimaa
open Go.RowKit
set_option maxRecDepth 100000
attribute [local go_sem] Oper.semAt_some

theorem delLast_none {α : Type} {p : α → Bool} : ∀ {l : List α}, (∀ x ∈ l, p x = false) → delLast p l = none
  | [], _ => rfl
  | x :: l, h => by
    rw [delLast, delLast_none (fun y hy => h y (List.mem_cons_of_mem _ hy))]
    simp [h x (List.mem_cons_self ..)]
theorem delLast_some {α : Type} {p : α → Bool} : ∀ {l : List α} {j : Nat} {e : α}, l[j]? = some e → p e = true → (∀ m e', j < m → l[m]? = some e' → p e' = false) → delLast p l = some (l.eraseIdx j)
  | [], j, e, h, _, _ => by simp at h
  | x :: l, 0, e, h, hp, hl => by
    obtain rfl : x = e := by simpa using h
    rw [delLast, delLast_none (fun y hy => by
      obtain ⟨m, hm⟩ := List.getElem?_of_mem hy
      exact hl (m + 1) y (by omega) (by simpa using hm))]
    simp [hp]
  | x :: l, j + 1, e, h, hp, hl => by
    rw [delLast, delLast_some (l := l) (j := j) (e := e) (by simpa using h) hp (fun m e' hm he => hl (m + 1) e' (by omega) (by simpa using he))]
    simp
theorem pairs_pre {l : List En} {p : En → Bool} {pre : List (PE l)} {x : PE l} (h : (pre ++ [x]) <+: pairs l) (hn : ∀ y ∈ pre, p y.1.2 = false) (hp : p x.1.2 = true) : delLast p l = some (l.eraseIdx x.1.1) := by
  obtain ⟨rest, hr⟩ := h
  have hlen : pre.length < (pairs l).length := by rw [← hr]; simp
  have hx : (pairs l)[pre.length] = x := by simp [← hr]
  have hj : x.1.1 = l.length - 1 - pre.length := by rw [← hx]; exact pairs_at l _ hlen
  rw [pairs_length] at hlen
  refine delLast_some x.2 hp (fun m e' hm he => ?_)
  have hml : m < l.length := (List.getElem?_eq_some_iff.1 he).1
  have hk : l.length - 1 - m < pre.length := by omega
  have hkl : l.length - 1 - m < (pairs l).length := by rw [pairs_length]; omega
  have hy : (pairs l)[l.length - 1 - m] = pre[l.length - 1 - m] := by
    simp only [← hr]; rw [List.getElem_append_left (by simp; omega), List.getElem_append_left hk]
  have hyi := pairs_at l _ hkl
  have hye := (pairs l)[l.length - 1 - m].2
  rw [hyi, show l.length - 1 - (l.length - 1 - m) = m from by omega, he] at hye
  have := hn _ (List.getElem_mem hk)
  rw [← hy] at this
  rw [← Option.some.inj hye] at this
  exact this

theorem take_at {P : Program} {ops : Array Oper} {Q : Exit → Act → World → Prop} {md : Region.Mode} {S : World → Prop} (i : Nat) (d : Option Tmp) (v : Value) {oi : Oper} {fuel : Nat} {listed : Array Bool} {a : Act} {w : World} (hi : ops[i]? = some oi) (hd : oi.dst = d)
    (hs : Region.noSelect ops = true) (hf : Region.free md ops listed i = true) (hr : (Region.ready md ops listed).contains i = true)
    (hQ : ∀ c a w, Q (.panic c) (a.put oi.dst v) w → Q (.panic c) a w) (hy : YieldsIf P ops S oi v a) (hS : S w)
    (h : wpAnyH P md ops Q S fuel (listed.setIfInBounds i true) (a.put d v) w) : wpAnyH P md ops Q S (fuel + 1) listed a w := by
  subst hd; exact wpAnyH_take hi hs hf hr hQ hy hS h
theorem call_at {P : Program} {ops : Array Oper} {Q : Exit → Act → World → Prop} (d : Option Tmp) {i : Nat} {o : Oper} {K : Act → World → Prop} {a : Act} {w : World} (ho : ops[i]? = some o) (hg : o.guard = none) (hd : o.dst = d) (f : FuncId) (args : Array Value) (hrun : (execOp a.eval o).run P w = .ok (.enter f args) w)
    (h : Calls P f args w fun e w'' => ∃ v, e = .returned v ∧ K (a.put d v) w'') : wpOp P ops Q i K a w := by
  subst hd; exact wpOp_call ho hg f args hrun h

theorem results_cell_bool {P : Program} {fn : Func} {p : Tmp} {ty : TypeId} (h : fn.results = #[.cell p ty]) (tmps : Array Value) (w : World) (g : Nat) (v : Value) (d : TypeDesc)
    (hp : tmps.getD p undef = .pointer (some ⟨g, 0, none⟩)) (hc : w.cell? ⟨g, 0, none⟩ = some v) (hu : P.underlying ty = some d) (hd : (match d with | .struct _ | .array _ _ => true | _ => false) = false) :
    (results fn tmps).run P w = .ok v w := by
  have hp' : tmps[p]?.getD undef = .pointer (some ⟨g, 0, none⟩) := by simpa using hp
  have ha : (isAgg ty).run P w = .ok false w := by
    cases d <;> simp_all [isAgg, run_underlying hu]
  simp [results, h, hp', asAddr, loadVar, ha, run_load, hc]

structure DelX (w w3 : World) (p pl pn s : Nat) (L : List (List En)) (l : List En) (t at_ i : Nat) (pre : List (PE l)) (W : World) : Prop where
  hit : ∃ pre0 x, pre = pre0 ++ [x] ∧ (∀ y ∈ pre0, (y.1.2.tag == t && y.1.2.at_ == at_) = false) ∧ (x.1.2.tag == t && x.1.2.at_ == at_) = true ∧ DirAt W p pl pn s (L.set i (l.eraseIdx x.1.1))
  res : Blk W (w.heap.size + 3) [.bool true] 4
  kept : Keeps (fun k => k = pl ∨ k = pn) w W
  size : w3.heap.size ≤ W.heap.size
theorem DelX.own {w w3 : World} {p pl pn s : Nat} {L : List (List En)} {l : List En} {t at_ i : Nat} (l1 : p < w.heap.size) (l2 : pl < w.heap.size) (l3 : pn < w.heap.size) (hw : w.heap.size ≤ w3.heap.size) {pre : List (PE l)} {X Y : World} {row : Option Nat} (h : DelX w w3 p pl pn s L l t at_ i pre X) (hg : X.grownBy Y row)
    (hr : ∀ r, row = some r → w3.heap.size ≤ r ∧ ∃ o : Obj, X.heap[r]? = some o ∧ o.isCells = false) : DelX w w3 p pl pn s L l t at_ i pre Y := by
  obtain ⟨⟨pre0, x, h1, h2, h3, h4⟩, h5, h6, h7⟩ := h
  refine ⟨⟨pre0, x, h1, h2, h3, ?_⟩, h5.own hg (fun r e => (hr r e).2), h6.own hg hw (fun r e => (hr r e).1), Nat.le_trans h7 hg.size⟩
  exact h4.keeps (Keeps.ofGrownBy hg (S := fun k => row = some k) (fun k e => e)) (fun e => by have := (hr _ e).1; omega) (fun e => by have := (hr _ e).1; omega) (fun e => by have := (hr _ e).1; omega)

def Del0 (w3 : World) {l : List En} (t at_ : Nat) (pre : List (PE l)) (W : World) : Prop := Keeps (fun _ => False) w3 W ∧ ∀ y ∈ pre, (y.1.2.tag == t && y.1.2.at_ == at_) = false
theorem Del0.own {w3 : World} {l : List En} (t at_ : Nat) : OwnFrom w3.heap.size (Del0 w3 (l := l) t at_) := fun _ _ _ _ h hg hr =>
  ⟨h.1.own hg (Nat.le_refl _) (fun r e => (hr r e).1), h.2⟩

set_option maxHeartbeats 1000000 in
theorem Del_dir {w : World} {p pl pn s : Nat} {L : List (List En)} (h : DirAt w p pl pn s L) {ks : List Value} {n t : Nat} (hk : IsKey ks n t) (at_ : Nat) (i : Nat) (hi : n % L.length = i) (l : List En) (hl : L[i]? = some l) :
    Calls Try.prog 19 #[.pointer (some ⟨p, 0, none⟩), .agg ks.toArray, .int .u32 at_] w fun e w' => e = .returned (.bool (mDel L i t at_).1) ∧ DirAt w' p pl pn s (mDel L i t at_).2 ∧ Keeps (fun k => k = pl ∨ k = pn) w w' := by
  have hb1 := Below.alloc1 w (.cells #[.pointer (some ⟨p, 0, none⟩)] 28)
  have hA := (((hb1.alloc (by simp) (.cells ks.toArray 23)).alloc (by simp; omega) (.cells #[.int .u32 at_] 37)).alloc (by simp; omega) (.cells #[.bool false] 4))
  obtain ⟨w0, hw0⟩ : ∃ w0, w0 = (((w.alloc (.cells #[.pointer (some ⟨p, 0, none⟩)] 28)).alloc (.cells ks.toArray 23)).alloc (.cells #[.int .u32 at_] 37)).alloc (.cells #[.bool false] 4) := ⟨_, rfl⟩
  rw [← hw0] at hA
  have hD := h.below hA
  have k0 : Blk w0 w.heap.size [.pointer (some ⟨p, 0, none⟩)] 28 := by
    rw [hw0]; exact (((Blk.new w [_] 28).alloc _).alloc _).alloc _
  have k1 : Blk w0 (w.heap.size + 1) ks 23 := by
    have := Blk.new (w.alloc (.cells #[.pointer (some ⟨p, 0, none⟩)] 28)) ks 23
    rw [World.size_alloc] at this
    rw [hw0]; exact (this.alloc _).alloc _
  have k2 : Blk w0 (w.heap.size + 2) [.int .u32 at_] 37 := by
    have := Blk.new ((w.alloc (.cells #[.pointer (some ⟨p, 0, none⟩)] 28)).alloc (.cells ks.toArray 23)) [.int .u32 at_] 37
    rw [World.size_alloc, World.size_alloc] at this
    rw [hw0]; exact this.alloc _
  have k3 : Blk w0 (w.heap.size + 3) [.bool false] 4 := by
    have := Blk.new (((w.alloc (.cells #[.pointer (some ⟨p, 0, none⟩)] 28)).alloc (.cells ks.toArray 23)).alloc (.cells #[.int .u32 at_] 37)) [.bool false] 4
    rw [World.size_alloc, World.size_alloc, World.size_alloc] at this
    rw [hw0]; exact this
  have hs0 : w0.heap.size = w.heap.size + 4 := by rw [hw0]; simp
  obtain ⟨l1, l2, l3⟩ := h.lts
  have hle := h.le i l hl
  have hs16 := h.s16
  obtain ⟨q1, q2, q3⟩ := hD.lts
  have hcall := Bucket_any hk _ p L.length L.length _ q1 h.b1 h.b4 (hD.head.cell rfl)
  rw [hi] at hcall
  have c0 := k0.cell (j := 0) rfl
  subst hw0
  have HC := Lib.hid hcall
  have H0 := Lib.hid k0
  have H1 := Lib.hid k1
  have H2 := Lib.hid k2
  have H3 := Lib.hid k3
  have HD := Lib.hid hD
  have HW := Lib.hid hA
  have HS := Lib.hid (size23k hk)
  have HL := Lib.hid hl
  have HOK := Lib.hid (h.ok l (List.mem_of_getElem? hl))
  clear hcall k0 k1 k2 k3 hD hi hl h hA q1 q2 q3 hb1
  refine (callsIn_wide (n := 5)).1 (callsIn_of_wp_marks Try.func19 rfl trivial ?_ rfl)
  simp only [Try.ntmps19, List.size_toArray, List.length_cons, List.length_nil, Nat.reduceAdd, Nat.reduceSub, Array.replicate_succ, Array.replicate_zero, List.push_toArray, List.append_toArray, List.nil_append, List.cons_append]
  refine wpIn_wide.2 ?_
  go_wp2_with (first | (refine wpList_load_row rfl 23 _ rfl (w.heap.size + 1) rfl 23 ks.toArray (0, 0) _ H1.out Try.underlying23 rfl HS.out ?_))
  refine HC.out.mono ?_
  rintro e w1 ⟨rfl, hb1⟩
  have hk1 : Keeps (fun _ => False) _ w1 := Keeps.ofBelow hb1
  have hD1 := HD.out.below hb1
  have K0 := Lib.hid (H0.out.keeps hk1 id)
  have K1 := Lib.hid (H1.out.keeps hk1 id)
  have K2 := Lib.hid (H2.out.keeps hk1 id)
  have K3 := Lib.hid (H3.out.keeps hk1 id)
  have hww1 : Keeps (fun _ => False) w w1 := (Keeps.ofBelow HW.out).trans hk1
  have hs1 : w.heap.size + 4 ≤ w1.heap.size := by have := hk1.size; omega
  have HW1 := Lib.hid hww1
  have d0 := (H0.out.keeps hk1 id).cell (j := 0) rfl
  have d0a : ∀ o, (w1.alloc o).cell? ⟨w.heap.size, 0, none⟩ = some (.pointer (some ⟨p, 0, none⟩)) := fun o => (K0.out.alloc o).cell (j := 0) rfl
  have hbuck := Lib.hid (bucket_dir2 (hD1.below (Below.alloc1 _ (.cells #[.int .i64 i] 3))) i l HL.out)
  clear hb1 hk1 hD1 hww1 H0 H1 H2 H3 HD HW HC c0 hs0 d0
  go_wp2_with fail
  refine hbuck.out.mono ?_
  rintro e w2 ⟨rfl, hD2, hK2, hS2⟩
  have hsl : SlR (w2.alloc (.cells #[.slice (some ⟨pl, i * s * 4, none⟩) l.length s] 45)) (.slice (some ⟨pl, i * s * 4, none⟩) l.length s) 4 l.length (cellsE l) := hS2.below (Below.alloc1 _ _)
  have hk12 : Keeps (fun _ => False) w1 w2 := (Keeps.alloc _ _ _).trans hK2
  have L0 := Lib.hid ((K0.out.keeps hk12 id).alloc (.cells #[.slice (some ⟨pl, i * s * 4, none⟩) l.length s] 45))
  have L1 := Lib.hid ((K1.out.keeps hk12 id).alloc (.cells #[.slice (some ⟨pl, i * s * 4, none⟩) l.length s] 45))
  have L2 := Lib.hid ((K2.out.keeps hk12 id).alloc (.cells #[.slice (some ⟨pl, i * s * 4, none⟩) l.length s] 45))
  have L3 := Lib.hid ((K3.out.keeps hk12 id).alloc (.cells #[.slice (some ⟨pl, i * s * 4, none⟩) l.length s] 45))
  have L7 := Lib.hid (((Blk.new w1 [.int .i64 i] 3).keeps hK2 id).alloc (.cells #[.slice (some ⟨pl, i * s * 4, none⟩) l.length s] 45))
  have L8 := Lib.hid (Blk.new w2 [.slice (some ⟨pl, i * s * 4, none⟩) l.length s] 45)
  have LD := Lib.hid (hD2.below (Below.alloc1 _ (.cells #[.slice (some ⟨pl, i * s * 4, none⟩) l.length s] 45)))
  have LS := Lib.hid hsl
  have hw2k : Keeps (fun _ => False) w (w2.alloc (.cells #[.slice (some ⟨pl, i * s * 4, none⟩) l.length s] 45)) := (HW1.out.trans hk12).trans (Keeps.alloc _ _ _)
  have LW := Lib.hid hw2k
  have hs12 : w1.heap.size + 1 ≤ w2.heap.size := by have := hK2.size; simp at this; omega
  have hsz2 : (w2.alloc (.cells #[.slice (some ⟨pl, i * s * 4, none⟩) l.length s] 45)).heap.size = w2.heap.size + 1 := by simp
  clear K0 K1 K2 K3 hbuck hD2 hK2 hS2 hsl hk12 HW1 hw2k d0a
  go_wp2_with fail
  refine (Backward_any _ (some ⟨pl, i * s * 4, none⟩) l.length s).mono ?_
  rintro e w3 ⟨rfl, hw3⟩
  generalize hw2' : w2.alloc (.cells #[.slice (some ⟨pl, i * s * 4, none⟩) l.length s] 45) = w2a at *
  have hb23 : Below w2a.heap.size w2a w3 := by rw [hw3]; exact Below.alloc1 _ _
  have hk23 : Keeps (fun _ => False) w2a w3 := Keeps.ofBelow hb23
  have M0 := Lib.hid (L0.out.keeps hk23 id)
  have M1 := Lib.hid (L1.out.keeps hk23 id)
  have M2 : Hid (Blk w3 (w.heap.size + 1 + 1) [.int .u32 at_] 37) := Lib.hid (L2.out.keeps hk23 id)
  have M3 : Hid (Blk w3 (w.heap.size + 1 + 1 + 1) [.bool false] 4) := Lib.hid (L3.out.keeps hk23 id)
  have M7 := Lib.hid (L7.out.keeps hk23 id)
  have M8 := Lib.hid (L8.out.keeps hk23 id)
  have MD := Lib.hid (LD.out.below hb23)
  have MS := Lib.hid (LS.out.below hb23)
  have hwl : pl < w2a.heap.size := LD.out.lts.2.1
  have MW := Lib.hid (LW.out.trans hk23)
  have hsz3 : w3.heap.size = w2a.heap.size + 1 := by rw [hw3]; simp
  have hbox : Blk w3 (w2.heap.size + 1) [.slice (some ⟨pl, i * s * 4, none⟩) l.length s] 45 := by rw [hw3, ← hsz2]; exact Blk.new w2a [_] 45
  have hstops := back_stops Fence.wide 4 trivial rfl (by omega) (w2.heap.size + 1) pl (i * s * 4) s l (by omega) w3 (by omega) (by omega) (hbox.cell rfl) MS.out.cellsAt
  have HST := Lib.hid hstops
  clear hstops hbox hb23 hk23 L0 L1 L2 L3 L7 L8 LD LS LW hw2' hw3
  go_wp2_with fail
  have hD0 : Del0 w3 t at_ ([] : List (PE l)) w3 := ⟨Keeps.refl _ _, fun y hy => by cases hy⟩
  refine (wpIn_wide (n := 5)).1 (wpIn_rangeFunc_ownH (α := PE l) rfl (by omega) (gf := 52) (lb := #[.pointer (some ⟨w2.heap.size + 1, 0, none⟩)]) rfl trivial (enters_of Try.func52 (by kernel_rfl) rfl)
    HST.out (fun h k => h.trans k) (fun W l' o o' hl' ho hc hwk => ?kb) (Below.refl _ _) (fun _ => rfl)
    (Del0 w3 t at_) (fun c pre W => c = .ret ∧ DelX w w3 p pl pn s L l t at_ i pre W) (Del0.own t at_) (fun _ _ _ _ _ h hg hr => ⟨h.1, DelX.own l1 l2 l3 (by omega) h.2 hg hr⟩) hD0
    (fun x a' W => ∃ Bx, Blk W Bx x.1.2.enc 55 ∧ w3.heap.size ≤ Bx ∧ a' = { tmps := #[.pointer (some ⟨p, 0, none⟩), .agg ks.toArray, .int .u32 at_, .pointer (some ⟨w.heap.size, 0, none⟩), .pointer (some ⟨w.heap.size + 1, 0, none⟩), .pointer (some ⟨w.heap.size + 1 + 1, 0, none⟩), .pointer (some ⟨w.heap.size + 1 + 1 + 1, 0, none⟩), .pointer (some ⟨w1.heap.size, 0, none⟩), .pointer (some ⟨w2.heap.size, 0, none⟩), .int .i64 x.1.1, .pointer (some ⟨Bx, 0, none⟩), .pointer (some ⟨p, 0, none⟩), .agg ks.toArray, .int .i64 i, .pointer (some ⟨p, 0, none⟩), .int .i64 i, .slice (some ⟨pl, i * s * 4, none⟩) l.length s, .slice (some ⟨pl, i * s * 4, none⟩) l.length s, .func (.func 52) #[] #[.pointer (some ⟨w2.heap.size + 1, 0, none⟩)], .int .i64 x.1.1, .agg x.1.2.enc.toArray, undef, undef, undef, undef, undef, undef, undef, undef, undef, undef, undef, undef, undef, undef, undef, undef, undef, undef, undef, undef], defers := [] })
    (fun x a' => fun _ X Y row hs hg hr => by obtain ⟨Bx, h1, h2, h3⟩ := hs; exact ⟨Bx, h1.own hg (fun r e => (hr r e).2), h2, h3⟩) ?assign ?body ?done ?stop)
  case kb => exact ⟨World.putObj_heap_other (by omega), World.putObj_heap_other (by omega)⟩
  case assign =>
    rintro l' pre x W K hI hK
    have HI := Lib.hid hI
    have hsz := hI.1.size
    have HKK := Lib.hid hK
    clear hI hK
    unfold encP En.enc
    gi_wp2
    refine HKK.out _ _ (keepsFrom_of_keeps (S := fun _ => False) (Keeps.alloc _ _ _) _ (fun _ _ h _ => h.elim)) ⟨Below.heap_alloc _ _ _ (by omega), Below.heap_alloc _ _ _ (by omega)⟩
      ?_ ⟨W.heap.size, Blk.new W _ _, hsz, rfl⟩
    exact ⟨HI.out.1.trans (Keeps.alloc _ _ _), HI.out.2⟩
  case body =>
    rintro l' pre x a' W _ _ hI ⟨Bx, hBx, hBx2, rfl⟩ hlt
    have HI := Lib.hid hI
    have HBx := Lib.hid hBx
    have hWs := hI.1.size
    have hxl0 : x.1.1 < l.length := (List.getElem?_eq_some_iff.1 x.2).1
    have hwr : IntKind.i64.wrap ((x.1.1 : Int) + 1) = (x.1.1 : Int) + 1 := by rw [IntKind.wrap_i64]; omega
    have HWR := Lib.hid hwr
    clear hI hBx hwr
    gi_wp2
    refine region_in_round (S := fun w' => Keeps (fun _ => False) W w') l' _ (by kernel_rfl) (by kernel_rfl) ?_ ?_
    · intro a' w' hq
      exact hq
    have hS0 : Keeps (fun _ => False) W W.drew := Keeps.drew _ _
    refine take_at 0 (some 21) (.pointer (some ⟨Bx, 0, none⟩)) rfl rfl (by kernel_rfl) (by kernel_rfl) (by kernel_rfl) (fun _ _ _ h => h) (.inl ⟨by rfl, fun w' hS => ?_⟩) hS0 ?_
    · go_simp
    try simp only [Act.put, List.setIfInBounds_toArray, List.set_cons_zero, List.set_cons_succ]
    refine take_at 1 (some 22) (.int .u16 x.1.2.tag) rfl rfl (by kernel_rfl) (by kernel_rfl) (by kernel_rfl) (fun _ _ _ h => h) (.inl ⟨by rfl, fun w' hS => ?_⟩) hS0 ?_
    · have := (HBx.out.keeps hS id).cell (j := 0) rfl
      go_simp
    try simp only [Act.put, List.setIfInBounds_toArray, List.set_cons_zero, List.set_cons_succ]
    refine take_at 2 (some 23) (.agg ks.toArray) rfl rfl (by kernel_rfl) (by kernel_rfl) (by kernel_rfl) (fun _ _ _ h => h) (.inl ⟨by rfl, fun w' hS => ?_⟩) hS0 ?_
    · exact run_load_blk ((HI.out.1.trans hS |> M1.out.keeps) id) 23 _ Try.underlying23 rfl HS.out _ _ (.tmp 4) rfl rfl
    try simp only [Act.put, List.setIfInBounds_toArray, List.set_cons_zero, List.set_cons_succ]
    refine wpAnyH_all (rs := [3]) (by kernel_rfl) (by simp) ?_
    intro i3 hi3
    obtain rfl : i3 = 3 := by simpa using hi3
    refine call_at (some 24) rfl rfl rfl 11 #[.agg ks.toArray] ?_ ?_
    · go_simp
    refine (Tag_any hk W.drew).mono ?_
    rintro e w4 ⟨rfl, hb4⟩
    have hS4 : Keeps (fun _ => False) W w4 := (Keeps.drew _ _).trans (Keeps.ofBelow hb4)
    refine ⟨_, rfl, hS4, ?_⟩
    try simp only [Act.put, List.setIfInBounds_toArray, List.set_cons_zero, List.set_cons_succ]
    have hw34 : Keeps (fun _ => False) w3 w4 := HI.out.1.trans hS4
    cases hb : (x.1.2.tag == t) with
    | false =>
      have hbi : ((x.1.2.tag : Int) == (t : Int)) = false := by
        have := beq_eq_false_iff_ne.1 hb
        exact beq_eq_false_iff_ne.2 (by omega)
      have hfin : KeepsFrom w3.heap.size W w4 ∧ KpB (w2.heap.size + 1) pl W w4 ∧ Del0 w3 t at_ (pre ++ [x]) w4 :=
        ⟨keepsFrom_of_keeps (S := fun _ => False) hS4 _ (fun _ _ h _ => h.elim), ⟨hS4.block _ (by omega) id, hS4.block _ (by omega) id⟩, hw34, fun y hy => by
          rcases List.mem_append.1 hy with h | h
          · exact HI.out.2 y h
          · obtain rfl : y = x := by simpa using h
            simp [hb]⟩
      refine take_at 4 (some 25) (.bool false) rfl rfl (by kernel_rfl) (by kernel_rfl) (by kernel_rfl) (fun _ _ _ h => h) (.inl ⟨by rfl, fun w' hS => ?_⟩) hS4 ?_
      · go_simp
      try simp only [Act.put, List.setIfInBounds_toArray, List.set_cons_zero, List.set_cons_succ]
      refine take_at 5 (some 26) (.bool false) rfl rfl (by kernel_rfl) (by kernel_rfl) (by kernel_rfl) (fun _ _ _ h => h) (.inl ⟨by rfl, fun w' hS => ?_⟩) hS4 ?_
      · go_simp
      try simp only [Act.put, List.setIfInBounds_toArray, List.set_cons_zero, List.set_cons_succ]
      refine take_at 6 (some 27) undef rfl rfl (by kernel_rfl) (by kernel_rfl) (by kernel_rfl) (fun _ _ _ h => h) (.inr ⟨by rfl, rfl⟩) hS4 ?_
      try simp only [Act.put, List.setIfInBounds_toArray, List.set_cons_zero, List.set_cons_succ]
      refine take_at 7 (some 28) undef rfl rfl (by kernel_rfl) (by kernel_rfl) (by kernel_rfl) (fun _ _ _ h => h) (.inr ⟨by rfl, rfl⟩) hS4 ?_
      try simp only [Act.put, List.setIfInBounds_toArray, List.set_cons_zero, List.set_cons_succ]
      refine take_at 8 (some 29) undef rfl rfl (by kernel_rfl) (by kernel_rfl) (by kernel_rfl) (fun _ _ _ h => h) (.inr ⟨by rfl, rfl⟩) hS4 ?_
      try simp only [Act.put, List.setIfInBounds_toArray, List.set_cons_zero, List.set_cons_succ]
      refine take_at 9 (some 30) undef rfl rfl (by kernel_rfl) (by kernel_rfl) (by kernel_rfl) (fun _ _ _ h => h) (.inr ⟨by rfl, rfl⟩) hS4 ?_
      try simp only [Act.put, List.setIfInBounds_toArray, List.set_cons_zero, List.set_cons_succ]
      refine take_at 10 (some 31) (.bool false) rfl rfl (by kernel_rfl) (by kernel_rfl) (by kernel_rfl) (fun _ _ _ h => h) (.inl ⟨by rfl, fun w' hS => ?_⟩) hS4 ?_
      · go_simp
      try simp only [Act.put, List.setIfInBounds_toArray, List.set_cons_zero, List.set_cons_succ]
      refine wpAnyH_done (by kernel_rfl) ?_ _
      change Exit.then _ _ Exit.normal { tmps := #[.pointer (some ⟨p, 0, none⟩), .agg ks.toArray, .int .u32 at_, .pointer (some ⟨w.heap.size, 0, none⟩), .pointer (some ⟨w.heap.size + 1, 0, none⟩), .pointer (some ⟨w.heap.size + 1 + 1, 0, none⟩), .pointer (some ⟨w.heap.size + 1 + 1 + 1, 0, none⟩), .pointer (some ⟨w1.heap.size, 0, none⟩), .pointer (some ⟨w2.heap.size, 0, none⟩), .int .i64 x.1.1, .pointer (some ⟨Bx, 0, none⟩), .pointer (some ⟨p, 0, none⟩), .agg ks.toArray, .int .i64 i, .pointer (some ⟨p, 0, none⟩), .int .i64 i, .slice (some ⟨pl, i * s * 4, none⟩) l.length s, .slice (some ⟨pl, i * s * 4, none⟩) l.length s, .func (.func 52) #[] #[.pointer (some ⟨w2.heap.size + 1, 0, none⟩)], .int .i64 x.1.1, .agg x.1.2.enc.toArray, .pointer (some ⟨Bx, 0, none⟩), .int .u16 x.1.2.tag, .agg ks.toArray, .int .u16 t, .bool false, .bool false, undef, undef, undef, undef, .bool false, undef, undef, undef, undef, undef, undef, undef, undef, undef], defers := [] } w4
      have HFIN := Lib.hid hfin
      clear hfin hS4 hw34 hb4 hS0
      gi_wp2
      exact HFIN.out
    | true =>
      have hbi : ((x.1.2.tag : Int) == (t : Int)) = true := by
        have := beq_iff_eq.1 hb
        exact beq_iff_eq.2 (by omega)
      cases ha : (x.1.2.at_ == at_) with
      | false =>
        have hai : ((x.1.2.at_ : Int) == (at_ : Int)) = false := by
          have := beq_eq_false_iff_ne.1 ha
          exact beq_eq_false_iff_ne.2 (by omega)
        have hfin : KeepsFrom w3.heap.size W w4 ∧ KpB (w2.heap.size + 1) pl W w4 ∧ Del0 w3 t at_ (pre ++ [x]) w4 :=
          ⟨keepsFrom_of_keeps (S := fun _ => False) hS4 _ (fun _ _ h _ => h.elim), ⟨hS4.block _ (by omega) id, hS4.block _ (by omega) id⟩, hw34, fun y hy => by
            rcases List.mem_append.1 hy with h | h
            · exact HI.out.2 y h
            · obtain rfl : y = x := by simpa using h
              simp [hb, ha]⟩
        refine take_at 4 (some 25) (.bool true) rfl rfl (by kernel_rfl) (by kernel_rfl) (by kernel_rfl) (fun _ _ _ h => h) (.inl ⟨by rfl, fun w' hS => ?_⟩) hS4 ?_
        · go_simp
        try simp only [Act.put, List.setIfInBounds_toArray, List.set_cons_zero, List.set_cons_succ]
        refine take_at 5 (some 26) (.bool true) rfl rfl (by kernel_rfl) (by kernel_rfl) (by kernel_rfl) (fun _ _ _ h => h) (.inl ⟨by rfl, fun w' hS => ?_⟩) hS4 ?_
        · go_simp
        try simp only [Act.put, List.setIfInBounds_toArray, List.set_cons_zero, List.set_cons_succ]
        refine take_at 6 (some 27) (.pointer (some ⟨Bx, 1, none⟩)) rfl rfl (by kernel_rfl) (by kernel_rfl) (by kernel_rfl) (fun _ _ _ h => h) (.inl ⟨by rfl, fun w' hS => ?_⟩) hS4 ?_
        · go_simp
        try simp only [Act.put, List.setIfInBounds_toArray, List.set_cons_zero, List.set_cons_succ]
        refine take_at 7 (some 28) (.int .u32 x.1.2.at_) rfl rfl (by kernel_rfl) (by kernel_rfl) (by kernel_rfl) (fun _ _ _ h => h) (.inl ⟨by rfl, fun w' hS => ?_⟩) hS4 ?_
        · have := (HBx.out.keeps hS id).cell (j := 1) rfl
          go_simp
        try simp only [Act.put, List.setIfInBounds_toArray, List.set_cons_zero, List.set_cons_succ]
        refine take_at 8 (some 29) (.int .u32 at_) rfl rfl (by kernel_rfl) (by kernel_rfl) (by kernel_rfl) (fun _ _ _ h => h) (.inl ⟨by rfl, fun w' hS => ?_⟩) hS4 ?_
        · have := (M2.out.keeps (HI.out.1.trans hS) id).cell (j := 0) rfl
          go_simp
        try simp only [Act.put, List.setIfInBounds_toArray, List.set_cons_zero, List.set_cons_succ]
        refine take_at 9 (some 30) (.bool false) rfl rfl (by kernel_rfl) (by kernel_rfl) (by kernel_rfl) (fun _ _ _ h => h) (.inl ⟨by rfl, fun w' hS => ?_⟩) hS4 ?_
        · go_simp
        try simp only [Act.put, List.setIfInBounds_toArray, List.set_cons_zero, List.set_cons_succ]
        refine take_at 10 (some 31) (.bool false) rfl rfl (by kernel_rfl) (by kernel_rfl) (by kernel_rfl) (fun _ _ _ h => h) (.inl ⟨by rfl, fun w' hS => ?_⟩) hS4 ?_
        · go_simp
        try simp only [Act.put, List.setIfInBounds_toArray, List.set_cons_zero, List.set_cons_succ]
        refine wpAnyH_done (by kernel_rfl) ?_ _
        change Exit.then _ _ Exit.normal { tmps := #[.pointer (some ⟨p, 0, none⟩), .agg ks.toArray, .int .u32 at_, .pointer (some ⟨w.heap.size, 0, none⟩), .pointer (some ⟨w.heap.size + 1, 0, none⟩), .pointer (some ⟨w.heap.size + 1 + 1, 0, none⟩), .pointer (some ⟨w.heap.size + 1 + 1 + 1, 0, none⟩), .pointer (some ⟨w1.heap.size, 0, none⟩), .pointer (some ⟨w2.heap.size, 0, none⟩), .int .i64 x.1.1, .pointer (some ⟨Bx, 0, none⟩), .pointer (some ⟨p, 0, none⟩), .agg ks.toArray, .int .i64 i, .pointer (some ⟨p, 0, none⟩), .int .i64 i, .slice (some ⟨pl, i * s * 4, none⟩) l.length s, .slice (some ⟨pl, i * s * 4, none⟩) l.length s, .func (.func 52) #[] #[.pointer (some ⟨w2.heap.size + 1, 0, none⟩)], .int .i64 x.1.1, .agg x.1.2.enc.toArray, .pointer (some ⟨Bx, 0, none⟩), .int .u16 x.1.2.tag, .agg ks.toArray, .int .u16 t, .bool true, .bool true, .pointer (some ⟨Bx, 1, none⟩), .int .u32 x.1.2.at_, .int .u32 at_, .bool false, .bool false, undef, undef, undef, undef, undef, undef, undef, undef, undef], defers := [] } w4
        have HFIN := Lib.hid hfin
        clear hfin hS4 hw34 hb4 hS0
        gi_wp2
        exact HFIN.out
      | true =>
        have hai : ((x.1.2.at_ : Int) == (at_ : Int)) = true := by
          have := beq_iff_eq.1 ha
          exact beq_iff_eq.2 (by omega)
        refine take_at 4 (some 25) (.bool true) rfl rfl (by kernel_rfl) (by kernel_rfl) (by kernel_rfl) (fun _ _ _ h => h) (.inl ⟨by rfl, fun w' hS => ?_⟩) hS4 ?_
        · go_simp
        try simp only [Act.put, List.setIfInBounds_toArray, List.set_cons_zero, List.set_cons_succ]
        refine take_at 5 (some 26) (.bool true) rfl rfl (by kernel_rfl) (by kernel_rfl) (by kernel_rfl) (fun _ _ _ h => h) (.inl ⟨by rfl, fun w' hS => ?_⟩) hS4 ?_
        · go_simp
        try simp only [Act.put, List.setIfInBounds_toArray, List.set_cons_zero, List.set_cons_succ]
        refine take_at 6 (some 27) (.pointer (some ⟨Bx, 1, none⟩)) rfl rfl (by kernel_rfl) (by kernel_rfl) (by kernel_rfl) (fun _ _ _ h => h) (.inl ⟨by rfl, fun w' hS => ?_⟩) hS4 ?_
        · go_simp
        try simp only [Act.put, List.setIfInBounds_toArray, List.set_cons_zero, List.set_cons_succ]
        refine take_at 7 (some 28) (.int .u32 x.1.2.at_) rfl rfl (by kernel_rfl) (by kernel_rfl) (by kernel_rfl) (fun _ _ _ h => h) (.inl ⟨by rfl, fun w' hS => ?_⟩) hS4 ?_
        · have := (HBx.out.keeps hS id).cell (j := 1) rfl
          go_simp
        try simp only [Act.put, List.setIfInBounds_toArray, List.set_cons_zero, List.set_cons_succ]
        refine take_at 8 (some 29) (.int .u32 at_) rfl rfl (by kernel_rfl) (by kernel_rfl) (by kernel_rfl) (fun _ _ _ h => h) (.inl ⟨by rfl, fun w' hS => ?_⟩) hS4 ?_
        · have := (M2.out.keeps (HI.out.1.trans hS) id).cell (j := 0) rfl
          go_simp
        try simp only [Act.put, List.setIfInBounds_toArray, List.set_cons_zero, List.set_cons_succ]
        refine take_at 9 (some 30) (.bool true) rfl rfl (by kernel_rfl) (by kernel_rfl) (by kernel_rfl) (fun _ _ _ h => h) (.inl ⟨by rfl, fun w' hS => ?_⟩) hS4 ?_
        · go_simp
        try simp only [Act.put, List.setIfInBounds_toArray, List.set_cons_zero, List.set_cons_succ]
        refine take_at 10 (some 31) (.bool true) rfl rfl (by kernel_rfl) (by kernel_rfl) (by kernel_rfl) (fun _ _ _ h => h) (.inl ⟨by rfl, fun w' hS => ?_⟩) hS4 ?_
        · go_simp
        try simp only [Act.put, List.setIfInBounds_toArray, List.set_cons_zero, List.set_cons_succ]
        refine wpAnyH_done (by kernel_rfl) ?_ _
        change Exit.then _ _ Exit.normal { tmps := #[.pointer (some ⟨p, 0, none⟩), .agg ks.toArray, .int .u32 at_, .pointer (some ⟨w.heap.size, 0, none⟩), .pointer (some ⟨w.heap.size + 1, 0, none⟩), .pointer (some ⟨w.heap.size + 1 + 1, 0, none⟩), .pointer (some ⟨w.heap.size + 1 + 1 + 1, 0, none⟩), .pointer (some ⟨w1.heap.size, 0, none⟩), .pointer (some ⟨w2.heap.size, 0, none⟩), .int .i64 x.1.1, .pointer (some ⟨Bx, 0, none⟩), .pointer (some ⟨p, 0, none⟩), .agg ks.toArray, .int .i64 i, .pointer (some ⟨p, 0, none⟩), .int .i64 i, .slice (some ⟨pl, i * s * 4, none⟩) l.length s, .slice (some ⟨pl, i * s * 4, none⟩) l.length s, .func (.func 52) #[] #[.pointer (some ⟨w2.heap.size + 1, 0, none⟩)], .int .i64 x.1.1, .agg x.1.2.enc.toArray, .pointer (some ⟨Bx, 0, none⟩), .int .u16 x.1.2.tag, .agg ks.toArray, .int .u16 t, .bool true, .bool true, .pointer (some ⟨Bx, 1, none⟩), .int .u32 x.1.2.at_, .int .u32 at_, .bool true, .bool true, undef, undef, undef, undef, undef, undef, undef, undef, undef], defers := [] } w4
        have HS4 := Lib.hid hS4
        clear hS4 hw34 hb4 hS0
        gi_wp2
        have hx := x.2
        have hxl : x.1.1 < l.length := (List.getElem?_eq_some_iff.1 hx).1
        have hel : (l.eraseIdx x.1.1).length = l.length - 1 := by rw [List.length_eraseIdx, if_pos hxl]
        have hw34' : Keeps (fun k => k = pl ∨ k = pn) W w4 := HS4.out.mono (fun _ h => h.elim)
        have HK34 := Lib.hid hw34'
        clear hw34'
        refine region_in_round (S := fun w' => Keeps (fun k => k = pl ∨ k = pn) W w') l' _ (by kernel_rfl) (by kernel_rfl) ?_ ?_
        · intro a' w' hq
          exact hq
        have hT0 : Keeps (fun k => k = pl ∨ k = pn) W w4.drew := HK34.out.trans (Keeps.drew _ _)
        refine take_at 0 (some 32) (.pointer (some ⟨p, 0, none⟩)) rfl rfl (by kernel_rfl) (by kernel_rfl) (by kernel_rfl) (fun _ _ _ h => h) (.inl ⟨by rfl, fun w' hS => ?_⟩) hT0 ?_
        · have := ((M0.out.keeps HI.out.1 id).keeps hS (by omega)).cell (j := 0) rfl
          go_simp
        try simp only [Act.put, List.setIfInBounds_toArray, List.set_cons_zero, List.set_cons_succ]
        refine take_at 1 (some 33) (.int .i64 i) rfl rfl (by kernel_rfl) (by kernel_rfl) (by kernel_rfl) (fun _ _ _ h => h) (.inl ⟨by rfl, fun w' hS => ?_⟩) hT0 ?_
        · have := ((M7.out.keeps HI.out.1 id).keeps hS (by omega)).cell (j := 0) rfl
          go_simp
        try simp only [Act.put, List.setIfInBounds_toArray, List.set_cons_zero, List.set_cons_succ]
        refine take_at 2 (some 34) (.slice (some ⟨pl, i * s * 4, none⟩) l.length s) rfl rfl (by kernel_rfl) (by kernel_rfl) (by kernel_rfl) (fun _ _ _ h => h) (.inl ⟨by rfl, fun w' hS => ?_⟩) hT0 ?_
        · have := ((M8.out.keeps HI.out.1 id).keeps hS (by omega)).cell (j := 0) rfl
          go_simp
        try simp only [Act.put, List.setIfInBounds_toArray, List.set_cons_zero, List.set_cons_succ]
        refine take_at 4 (some 36) (.int .i64 x.1.1) rfl rfl (by kernel_rfl) (by kernel_rfl) (by kernel_rfl) (fun _ _ _ h => h) (.inl ⟨by rfl, fun w' hS => ?_⟩) hT0 ?_
        · go_simp
        try simp only [Act.put, List.setIfInBounds_toArray, List.set_cons_zero, List.set_cons_succ]
        refine take_at 5 (some 37) (.int .i64 x.1.1) rfl rfl (by kernel_rfl) (by kernel_rfl) (by kernel_rfl) (fun _ _ _ h => h) (.inl ⟨by rfl, fun w' hS => ?_⟩) hT0 ?_
        · go_simp
        try simp only [Act.put, List.setIfInBounds_toArray, List.set_cons_zero, List.set_cons_succ]
        refine take_at 6 (some 38) (.int .i64 ((x.1.1 : Int) + 1)) rfl rfl (by kernel_rfl) (by kernel_rfl) (by kernel_rfl) (fun _ _ _ h => h) (.inl ⟨by rfl, fun w' hS => ?_⟩) hT0 ?_
        · have e1 : IntKind.i64.wrap ((x.1.1 : Int) + 1) = (x.1.1 : Int) + 1 := HWR.out
          go_simp
        try simp only [Act.put, List.setIfInBounds_toArray, List.set_cons_zero, List.set_cons_succ]
        refine wpAnyH_all (rs := [3]) (by kernel_rfl) (by simp) ?_
        intro i3 hi3
        obtain rfl : i3 = 3 := by simpa using hi3
        refine call_at (some 35) rfl rfl rfl 41 #[.slice (some ⟨pl, i * s * 4, none⟩) l.length s] ?_ ?_
        · go_simp
        have hw4d : Keeps (fun _ => False) w3 w4.drew := (HI.out.1.trans HS4.out).trans (Keeps.drew _ _)
        have hD4 : DirAt w4.drew p pl pn s L := MD.out.keeps hw4d id id id
        refine (Clone_any w4.drew ⟨pl, i * s * 4, none⟩ s l (MS.out.keeps hw4d (fun _ _ _ _ _ _ h => h)) (by omega)).mono ?_
        rintro e w5 ⟨v5, rfl, hO5, hK5, hg5⟩
        have hT5 : Keeps (fun k => k = pl ∨ k = pn) W w5 := hT0.trans (hK5.mono (fun _ h => h.elim))
        have hs4 : w3.heap.size ≤ w4.drew.heap.size := hw4d.size
        have hs4' : W.heap.size ≤ w4.drew.heap.size := HS4.out.size
        refine ⟨v5, rfl, hT5, ?_⟩
        try simp only [Act.put, List.setIfInBounds_toArray, List.set_cons_zero, List.set_cons_succ]
        refine wpAnyH_all (rs := [7]) (by kernel_rfl) (by simp) ?_
        intro i7 hi7
        obtain rfl : i7 = 7 := by simpa using hi7
        refine call_at (some 39) rfl rfl rfl 40 #[v5, .int .i64 x.1.1, .int .i64 ((x.1.1 : Int) + 1)] ?_ ?_
        · go_simp
        refine (Delete_any w5 v5 l x.1.1 hO5 hxl (by omega)).mono ?_
        rintro e w6 ⟨v6, rfl, hS6, hK6⟩
        have hD6 : DirAt w6 p pl pn s L := (hD4.keeps hK5 id id id).keeps hK6 (fun h => by have := hg5 _ h; omega) (fun h => by have := hg5 _ h; omega) (fun h => by have := hg5 _ h; omega)
        have hT6 : Keeps (fun k => k = pl ∨ k = pn) W w6 := hT5.transNew hK6 (fun k h1 h2 => by have := hg5 k h2; omega)
        refine ⟨v6, rfl, hT6, ?_⟩
        try simp only [Act.put, List.setIfInBounds_toArray, List.set_cons_zero, List.set_cons_succ]
        refine wpAnyH_all (rs := [8]) (by kernel_rfl) (by simp) ?_
        intro i8 hi8
        obtain rfl : i8 = 8 := by simpa using hi8
        refine call_at (some 40) rfl rfl rfl 37 #[.pointer (some ⟨p, 0, none⟩), .int .i64 i, v6] ?_ ?_
        · go_simp
        refine (lay_dir hD6 i (List.getElem?_eq_some_iff.1 HL.out).1 v6 (l.eraseIdx x.1.1) (by rw [hel]; exact hS6) (by rw [hel]; omega) (fun e he => HOK.out e (List.mem_of_mem_eraseIdx he))).mono ?_
        rintro e w7 ⟨rfl, hD7, hK7⟩
        have hT7 : Keeps (fun k => k = pl ∨ k = pn) W w7 := hT6.trans hK7
        refine ⟨_, rfl, hT7, ?_⟩
        try simp only [Act.put, List.setIfInBounds_toArray, List.set_cons_zero, List.set_cons_succ]
        refine wpAnyH_done (by kernel_rfl) ?_ _
        have hr7 : Blk w7 (w.heap.size + 1 + 1 + 1) [.bool false] 4 := (M3.out.keeps HI.out.1 id).keeps hT7 (by omega)
        have r7 := hr7.cell (j := 0) rfl
        have f7 := hr7.frozen 0
        have HD7 := Lib.hid hD7
        have HT7 := Lib.hid hT7
        have HR7 := Lib.hid hr7
        clear hD7 hT7 hr7 hK7 hT6 hD6 hK6 hS6 hT5 hO5 hK5 hg5 hD4 hw4d hT0
        have hfin : ∀ w8, Blk w8 (w.heap.size + 1 + 1 + 1) [.bool true] 4 → Keeps (fun k => k = w.heap.size + 1 + 1 + 1) w7 w8 → KeepsFrom w3.heap.size W w8 ∧ Code.ret = Code.ret ∧ DelX w w3 p pl pn s L l t at_ i (pre ++ [x]) w8 := by
          intro w8 hb8 hk8
          have hW8 : Keeps (fun k => (k = pl ∨ k = pn) ∨ k = w.heap.size + 1 + 1 + 1) W w8 := (HT7.out.mono (fun _ h => .inl h)).trans (hk8.mono (fun _ h => .inr h))
          have hs34 : w.heap.size + 4 ≤ w3.heap.size := by omega
          refine ⟨⟨hW8.size, fun k o hB hk ho => ?_⟩, rfl, ⟨⟨pre, x, rfl, HI.out.2, by simp [hb, ha], HD7.out.keeps hk8 (by omega) (by omega) (by omega)⟩, hb8, ?_, Nat.le_trans hWs hW8.size⟩⟩
          · have hlt := (Array.getElem?_eq_some_iff.1 hk).1
            rw [hW8.block k hlt (by omega)]; exact hk
          · exact (((MW.out.trans HI.out.1).mono (fun _ h => h.elim)).trans HT7.out).transNew hk8 (fun k h1 h2 => by omega)
        have HF := Lib.hid hfin
        clear hfin
        change Exit.then _ _ Exit.normal { tmps := #[.pointer (some ⟨p, 0, none⟩), .agg ks.toArray, .int .u32 at_, .pointer (some ⟨w.heap.size, 0, none⟩), .pointer (some ⟨w.heap.size + 1, 0, none⟩), .pointer (some ⟨w.heap.size + 1 + 1, 0, none⟩), .pointer (some ⟨w.heap.size + 1 + 1 + 1, 0, none⟩), .pointer (some ⟨w1.heap.size, 0, none⟩), .pointer (some ⟨w2.heap.size, 0, none⟩), .int .i64 x.1.1, .pointer (some ⟨Bx, 0, none⟩), .pointer (some ⟨p, 0, none⟩), .agg ks.toArray, .int .i64 i, .pointer (some ⟨p, 0, none⟩), .int .i64 i, .slice (some ⟨pl, i * s * 4, none⟩) l.length s, .slice (some ⟨pl, i * s * 4, none⟩) l.length s, .func (.func 52) #[] #[.pointer (some ⟨w2.heap.size + 1, 0, none⟩)], .int .i64 x.1.1, .agg x.1.2.enc.toArray, .pointer (some ⟨Bx, 0, none⟩), .int .u16 x.1.2.tag, .agg ks.toArray, .int .u16 t, .bool true, .bool true, .pointer (some ⟨Bx, 1, none⟩), .int .u32 x.1.2.at_, .int .u32 at_, .bool true, .bool true, .pointer (some ⟨p, 0, none⟩), .int .i64 i, .slice (some ⟨pl, i * s * 4, none⟩) l.length s, v5, .int .i64 x.1.1, .int .i64 x.1.1, .int .i64 ((x.1.1 : Int) + 1), v6, .tuple #[]], defers := [] } w7
        have e3 : w3.heap.size = w2.heap.size + 1 + 1 := by omega
        have E3 := Lib.hid e3
        clear e3
        gi_wp2
        obtain ⟨h1, -, h3⟩ := HF.out _ (HR7.out.setCell 0 _) (Keeps.setCell _ _ _ (fun _ => rfl))
        rw [E3.out] at h1
        exact ⟨h1, rfl, h3⟩
  case done =>
    rintro D ys W hDl hys hI hK
    obtain rfl : ys = pairs l := hys
    have hno : mDel L i t at_ = (false, L) := by
      unfold mDel
      rw [show L.getD i [] = l from by rw [List.getD_eq_getElem?_getD, HL.out]; rfl, delLast_none (fun e he => by
        have : e ∈ (pairs l).map (fun x => x.1.2) := by rw [pairs_map]; simpa using he
        obtain ⟨y, hy, rfl⟩ := List.mem_map.1 this
        exact hI.2 y hy)]
    have HNO := Lib.hid hno
    clear hno
    have hkd := hK
    have hr7 : Blk W (w.heap.size + 1 + 1 + 1) [.bool false] 4 := M3.out.keeps hI.1 id
    have r7 := hr7.cell (j := 0) rfl
    have f7 := hr7.frozen 0
    have HR7 := Lib.hid hr7
    have HI := Lib.hid hI
    have HKD := Lib.hid hkd
    clear hr7 hI hkd hK
    go_wp2
    have hKd := HKD.out
    have hKd' : (W.setCell ⟨w.heap.size + 1 + 1 + 1, 0, none⟩ (.bool false)).heap[D]? = some (.deferred (some [])) := (heap_setCell_other W _ D _ (by show D ≠ w.heap.size + 1 + 1 + 1; omega)).trans hKd
    refine ⟨by simp, .inl ⟨_, _, rfl, run_takeDeferred hKd', ?_⟩⟩
    have hk8 : Keeps (fun k => k = w.heap.size + 1 + 1 + 1) W (W.setCell ⟨w.heap.size + 1 + 1 + 1, 0, none⟩ (.bool false)) := Keeps.setCell _ _ _ (fun _ => rfl)
    have hg := grownBy_putObj' (W.setCell ⟨w.heap.size + 1 + 1 + 1, 0, none⟩ (.bool false)) D (.deferred none)
    have hno' : ∀ r, (some D : Option Nat) = some r → ∃ o : Obj, (W.setCell ⟨w.heap.size + 1 + 1 + 1, 0, none⟩ (.bool false)).heap[r]? = some o ∧ o.isCells = false := fun r e => by cases e; exact ⟨_, hKd', rfl⟩
    have hb9 := ((HR7.out.setCell 0 (.bool false)).own hg hno').cell (j := 0) rfl
    have hW8 : Keeps (fun k => k = w.heap.size + 1 + 1 + 1) w (W.setCell ⟨w.heap.size + 1 + 1 + 1, 0, none⟩ (.bool false)) := ((MW.out.trans HI.out.1).mono (fun _ h => h.elim)).trans hk8
    have hW9 := hW8.own hg (B := w3.heap.size) (by omega) (fun r e => by cases e; exact hDl)
    have hD8 := (MD.out.keeps HI.out.1 id id id).keeps hk8 (by omega) (by omega) (by omega)
    have hD9 := hD8.keeps (Keeps.ofGrownBy hg (S := fun k => some D = some k) (fun k e => e)) (fun e => by cases e; omega) (fun e => by cases e; omega) (fun e => by cases e; omega)
    refine ⟨_, results_cell_bool rfl _ _ _ (.bool false) _ rfl hb9 Try.underlying4 rfl, ?_⟩
    rw [HNO.out]
    exact ⟨rfl, hD9, hW9.monoLt (fun k h1 h2 => by omega)⟩
  case stop =>
    rintro D c pre W hDl hsp ⟨rfl, hX⟩ hK
    have HKD := Lib.hid hK
    have HX := Lib.hid hX
    clear hK hX
    gi_wp2
    have hKd := HKD.out
    refine ⟨by simp, .inl ⟨_, _, rfl, run_takeDeferred hKd, ?_⟩⟩
    have hg := grownBy_putObj' W D (.deferred none)
    have hX := DelX.own l1 l2 l3 (by omega) HX.out hg (fun r e => by cases e; exact ⟨hDl, _, hKd, rfl⟩)
    obtain ⟨⟨pre0, x, rfl, h2, h3, h4⟩, h5, h6, h7⟩ := hX
    have hyes : mDel L i t at_ = (true, L.set i (l.eraseIdx x.1.1)) := by
      unfold mDel
      rw [show L.getD i [] = l from by rw [List.getD_eq_getElem?_getD, HL.out]; rfl, pairs_pre (p := fun e => e.tag == t && e.at_ == at_) hsp h2 h3]
    refine ⟨_, results_cell_bool rfl _ _ _ (.bool true) _ rfl (h5.cell rfl) Try.underlying4 rfl, ?_⟩
    rw [hyes]
    exact ⟨rfl, h4, h6⟩
end Go.Proofs.Ythekkddmbomimaa
