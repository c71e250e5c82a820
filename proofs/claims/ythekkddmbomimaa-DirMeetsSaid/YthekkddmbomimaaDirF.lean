/- The contract of slices.DeleteFunc over the sweep's test: what is left reads as the entries that the test lets by. Conditions: the slice's array is its own; the literal's captured variables lie in other boxes. -/
import Derived.Test.YthekkddmbomimaaDirE
namespace Go.Proofs.Ythekkddmbomimaa
open Go.RowKit
set_option maxRecDepth 100000

theorem cellsE_set (Z : List En) (T : List Value) (i : Nat) (e : En) (hi : i < Z.length) :
    ((((cellsE Z ++ T).set (i * 4) (.int .u16 e.tag)).set (i * 4 + 1) (.int .u32 e.at_)).set (i * 4 + 2) (.int .u16 e.sec)).set (i * 4 + 3) (.int .u64 e.turn) = cellsE (Z.set i e) ++ T := by
  apply List.ext_getElem?
  intro t
  have hl : (cellsE Z).length = Z.length * 4 := cellsE_length Z
  have hl2 : (cellsE (Z.set i e)).length = Z.length * 4 := by rw [cellsE_length, List.length_set]
  simp only [List.getElem?_set, List.length_set, List.length_append]
  by_cases ht : t < Z.length * 4
  · obtain ⟨q, r, hr, rfl⟩ : ∃ q r, r < 4 ∧ t = q * 4 + r := ⟨t / 4, t % 4, Nat.mod_lt _ (by omega), by omega⟩
    rw [List.getElem?_append_left (by omega), List.getElem?_append_left (by omega), cellsE_get _ _ _ hr, cellsE_get _ _ _ hr, List.getElem?_set]
    by_cases hq : i = q
    · subst hq
      have : r = 0 ∨ r = 1 ∨ r = 2 ∨ r = 3 := by omega
      rcases this with rfl | rfl | rfl | rfl <;> simp [hi, En.enc] <;> omega
    · rw [if_neg (by omega), if_neg (by omega), if_neg (by omega), if_neg (by omega), if_neg hq]
  · rw [if_neg (by omega), if_neg (by omega), if_neg (by omega), if_neg (by omega), List.getElem?_append_right (by omega), List.getElem?_append_right (by omega), hl, hl2]

/-- Half way through: i entries are kept, those from j on lie as they lay. -/
structure Half (p : En → Bool) (xs Z : List En) (i j : Nat) : Prop where
  len : Z.length = xs.length
  ij : i < j
  jn : j ≤ xs.length
  done : Z.take i = (xs.take j).filter fun e => !p e
  rest : Z.drop j = xs.drop j
theorem Half.at_ {p : En → Bool} {xs Z : List En} {i j : Nat} (h : Half p xs Z i j) {e : En} (he : xs[j]? = some e) : Z[j]? = some e := by
  have h1 := congrArg (fun l => l[0]?) h.rest
  simp only [List.getElem?_drop, Nat.add_zero] at h1
  rw [h1]; exact he
theorem Half.skip {p : En → Bool} {xs Z : List En} {i j : Nat} (h : Half p xs Z i j) {e : En} (he : xs[j]? = some e) (hp : p e = true) : Half p xs Z i (j + 1) := by
  have hj := (List.getElem?_eq_some_iff.1 he).1
  refine ⟨h.len, by have := h.ij; omega, hj, ?_, ?_⟩
  · rw [h.done, List.take_add_one, he]; simp [hp]
  · have := congrArg (List.drop 1) h.rest
    simpa [List.drop_drop] using this
theorem Half.keep {p : En → Bool} {xs Z : List En} {i j : Nat} (h : Half p xs Z i j) {e : En} (he : xs[j]? = some e) (hp : p e = false) : Half p xs (Z.set i e) (i + 1) (j + 1) := by
  have hj := (List.getElem?_eq_some_iff.1 he).1
  have hij := h.ij
  have hl := h.len
  refine ⟨by simpa using h.len, by omega, hj, ?_, ?_⟩
  · rw [List.take_add_one, List.take_set_of_le (Nat.le_refl _), h.done, List.take_add_one, he]
    simp [hp, show i < Z.length by omega]
  · rw [List.drop_set_of_lt (by omega)]
    have := congrArg (List.drop 1) h.rest
    simpa [List.drop_drop] using this
theorem Half.start {p : En → Bool} {xs : List En} {k : Nat} (h : firstAt p xs = some k) : Half p xs xs k (k + 1) ∧ ∃ e, xs[k]? = some e := by
  induction xs generalizing k with
  | nil => simp [firstAt] at h
  | cons x l ih =>
    rw [firstAt] at h
    split at h
    · rename_i hp
      obtain rfl : k = 0 := by simpa using h.symm
      exact ⟨⟨rfl, by omega, by simp, by simp [hp], rfl⟩, x, rfl⟩
    · rename_i hp
      cases hf : firstAt p l with
      | none => rw [hf] at h; simp at h
      | some k' =>
        rw [hf] at h
        obtain rfl : k' + 1 = k := by simpa using h
        obtain ⟨hh, e, he⟩ := ih hf
        refine ⟨⟨rfl, by omega, by have := hh.jn; simp; omega, ?_, rfl⟩, e, by simpa using he⟩
        have := hh.done
        simp [List.take_succ_cons, hp]
        simpa using this
theorem firstAt_none_filter {p : En → Bool} : ∀ {xs : List En}, firstAt p xs = none → (xs.filter fun e => !p e) = xs
  | [], _ => rfl
  | x :: l, h => by
    rw [firstAt] at h
    split at h
    · simp at h
    · rename_i hp
      have : firstAt p l = none := by
        cases hf : firstAt p l with
        | none => rfl
        | some k => rw [hf] at h; simp at h
      simp [hp, firstAt_none_filter this]

/-- clear at elements of any number of cells. -/
theorem run_clearK {P : Program} {w : World} (t ty elem : TypeId) (i0 : TypeInfo) (z : Value) (hu : P.underlying t = some (.slice elem)) (hi : P.info? elem = some i0) (hz : i0.zero = some z)
    {g : Nat} {cur : List Value} {tt : TypeId} (hg : Blk w g cur tt) (o n c : Nat) (hfit : o + (Builtin.zeroCells z.cells n).size ≤ cur.length) (h1 : ∀ v ∈ (Builtin.zeroCells z.cells n).toList, v.oneCell' = true) :
    ∃ ds : List Value, (Builtin.clear_ #[t] ty #[.slice (some ⟨g, o, none⟩) n c]).run P w = .ok (.tuple #[]) (w.setRow g ds.toArray) ∧ ds.take o = cur.take o := by
  cases n with
  | zero =>
    refine ⟨cur, ?_, rfl⟩
    rw [setRow_self w g cur.toArray tt (0, 0) hg]
    simp [Builtin.clear_, run_underlying hu]
  | succ n =>
    have hst := run_storeCells_at P g o tt (Builtin.zeroCells z.cells (n + 1)).toList 0 cur.toArray w hg (by simpa using hfit) h1
    refine ⟨cur.take o ++ (Builtin.zeroCells z.cells (n + 1)).toList ++ cur.drop (o + (Builtin.zeroCells z.cells (n + 1)).toList.length), ?_, ?_⟩
    · simp [Builtin.clear_, run_underlying hu, zeroValue, typeInfo, hi, hz, hst]
    · have ho : o ≤ cur.length := by omega
      simp [ho]

theorem IndexFunc_none (w : World) (a : Option Addr) (c : Nat) (f : Value) : Calls Try.prog 53 #[.slice a 0 c, f] w fun r w' => r = .returned (.int .i64 (-1)) ∧ w' = w := by
  go_enter Try.func53, Try.ntmps53
  go_wp2
  refine wp_loop_rounds 1 ?_
  rw [rounds_succ]
  go_wp2
  go_ret
  exact ⟨rfl, rfl⟩

set_option maxHeartbeats 1000000 in
theorem DeleteFunc_any (w : World) (b1 b2 b3 from_ to turn : Nat) (hB : Boxes w b1 b2 b3 from_ to turn) (hf : from_ < 4294967296) (ht : to < 4294967296) (v : Value) (xs : List En)
    (hv : SlOwn w v 55 4 xs.length (cellsE xs)) (hok : ∀ e ∈ xs, e.ok) (hn : xs.length ≤ 65536) (hne : ∀ g, blkOf v = some g → g ≠ b1 ∧ g ≠ b2 ∧ g ≠ b3) :
    Calls Try.prog 42 #[v, .func (.func 43) #[] #[.pointer (some ⟨b1, 0, none⟩), .pointer (some ⟨b2, 0, none⟩), .pointer (some ⟨b3, 0, none⟩)]] w fun r w' => ∃ v', r = .returned v' ∧
      SlR w' v' 4 (xs.filter fun e => !gone from_ to turn e).length (cellsE (xs.filter fun e => !gone from_ to turn e)) ∧ Keeps (fun k => blkOf v = some k) w w' := by
  obtain ⟨hl, a, c, rfl, hnc, hm, h2⟩ := hv
  by_cases hc0 : c = 0
  · subst hc0
    obtain rfl : xs = [] := List.eq_nil_of_length_eq_zero (by omega)
    have hcl := Lib.hid (IndexFunc_none w a 0 (.func (.func 43) #[] #[.pointer (some ⟨b1, 0, none⟩), .pointer (some ⟨b2, 0, none⟩), .pointer (some ⟨b3, 0, none⟩)]))
    clear hl hnc hm hok hn hne hB hf ht h2
    go_enter Try.func42, Try.ntmps42
    go_wp2_with fail
    refine hcl.out.mono ?_
    rintro e w' ⟨rfl, rfl⟩
    go_wp2
    go_ret
    exact ⟨_, rfl, SlR.nil _ _ _ _, Keeps.refl _ _⟩
  · obtain ⟨g, cur, rfl, hg, hc, htk⟩ := h2.resolve_left hc0
    have hbk : blkOf (.slice (some ⟨g, 0, none⟩) xs.length c) = some g := by
      cases c with
      | zero => exact absurd rfl hc0
      | succ c => rfl
    rw [hbk]
    obtain ⟨g1, g2, g3⟩ := hne g hbk
    obtain ⟨T, hT⟩ : ∃ T, cur = cellsE xs ++ T := ⟨cur.drop (xs.length * 4), by rw [← htk, List.take_append_drop]⟩
    subst hT
    have hcI : ∀ j u, (cellsE xs)[j]? = some u → w.cell? ⟨g, 0 + j, none⟩ = some u := fun j u hu => by
      rw [Nat.zero_add]; exact hg.cell (by rw [List.getElem?_append_left (List.getElem?_eq_some_iff.1 hu).1]; exact hu)
    have hidx := IndexFunc_any w b1 b2 b3 from_ to turn hB hf ht g 0 c xs hg.lt hcI hok hn
    cases hfa : firstAt (gone from_ to turn) xs with
    | none =>
      rw [firstAt_none_filter hfa]
      have e1 : idxOf (gone from_ to turn) xs = -1 := by unfold idxOf; rw [hfa]
      rw [e1] at hidx
      have hcl := Lib.hid hidx
      have HG := Lib.hid hg
      clear hl hm hok hn hne hB hf ht h2 hidx e1 hfa hcI hg hc htk hbk
      go_enter Try.func42, Try.ntmps42
      go_wp2_with fail
      refine hcl.out.mono ?_
      rintro e w' ⟨rfl, hb⟩
      have HB := Lib.hid hb
      clear hb
      go_wp2
      go_ret
      refine ⟨_, rfl, ?_, Keeps.ofBelow HB.out⟩
      have := (HG.out.below' HB.out).slr 0 4 xs.length c (by rw [List.length_append, cellsE_length]; omega)
      rw [List.drop_zero, List.take_append_of_le_length (by rw [cellsE_length]; omega), List.take_of_length_le (by rw [cellsE_length]; omega)] at this
      exact this
    | some k =>
      obtain ⟨hstart, e0, he0⟩ := Half.start hfa
      have e1 : idxOf (gone from_ to turn) xs = (k : Int) := by unfold idxOf; rw [hfa]
      have hk : k < xs.length := (List.getElem?_eq_some_iff.1 he0).1
      have e2 : ((k : Int) == -1) = false := beq_eq_false_iff_ne.2 (by omega)
      rw [e1] at hidx
      have hcl := Lib.hid hidx
      have HG := Lib.hid hg
      have HS := Lib.hid hstart
      have HB := Lib.hid hB
      have HO := Lib.hid hok
      have HL : c * 4 ≤ T.length + xs.length * 4 := by rw [List.length_append, cellsE_length] at hc; omega
      clear hl hm hok hne hB h2 hidx e1 hfa hcI hg hc htk hbk hstart he0
      go_enter Try.func42, Try.ntmps42
      go_wp2_with fail
      refine hcl.out.mono ?_
      rintro e w' ⟨rfl, hb⟩
      have HK : Hid (Keeps (fun k => some g = some k) w w') := Keeps.ofBelow hb
      have HG2 : Hid (Blk w' g (cellsE xs ++ T) 55) := HG.out.below' hb
      clear hb
      go_wp2
      go_loopw [5, 6] (fun s5 s6 wr => ∃ (i j : Nat) (Z : List En), s5 = .int .i64 i ∧ s6 = .int .i64 j ∧ i < j ∧ j ≤ xs.length ∧ Hid (Half (gone from_ to turn) xs Z i j) ∧ Hid (Blk wr g (cellsE Z ++ T) 55) ∧ Hid (Keeps (fun k => some g = some k) w wr)) (fun _ s6 _ => xs.length - (intOf s6).toNat)
      case atStart => exact ⟨k, k + 1, xs, rfl, by go_num, by omega, by omega, HS, HG2, HK⟩
      case round =>
        obtain ⟨i, j, Z, rfl, rfl, hij, hjn, hH, hBk, hKp⟩ := hrel
        by_cases hlt : j < xs.length
        · obtain ⟨e, he⟩ : ∃ e, xs[j]? = some e := ⟨xs[j], by simp [hlt]⟩
          have hZl := hH.out.len
          obtain ⟨r0, r1, r2, r3⟩ := cellsE_at (hH.out.at_ he)
          have hap : ∀ t u, (cellsE Z)[t]? = some u → (cellsE Z ++ T)[t]? = some u := fun t u hu => by rw [List.getElem?_append_left (List.getElem?_eq_some_iff.1 hu).1]; exact hu
          have c0 := hBk.out.cell (hap _ _ r0)
          have c1 := hBk.out.cell (hap _ _ r1)
          have c2 := hBk.out.cell (hap _ _ r2)
          have c3 := hBk.out.cell (hap _ _ r3)
          obtain ⟨o, ho⟩ : ∃ o, o = Obj.cells #[.int .u16 e.tag, .int .u32 e.at_, .int .u16 e.sec, .int .u64 e.turn] 55 := ⟨_, rfl⟩
          have hbx : Boxes (wr.alloc (.cells e.enc.toArray 55)) b1 b2 b3 from_ to turn :=
            (HB.out.keeps hKp.out (fun h => g1 (by simpa using h)) (fun h => g2 (by simpa using h)) (fun h => g3 (by simpa using h))).keeps (Keeps.alloc (fun _ => False) _ _) id id id
          have hcall := gone_any (wr.alloc (.cells e.enc.toArray 55)) b1 b2 b3 from_ to turn hbx e (HO.out e (List.mem_of_getElem? he)) hf ht
          have hnb := Blk.new wr e.enc 55
          have hgb : Blk (wr.alloc (.cells e.enc.toArray 55)) g (cellsE Z ++ T) 55 := hBk.out.alloc _
          have hk2 : Keeps (fun k => some g = some k) w (wr.alloc (.cells e.enc.toArray 55)) := hKp.out.trans (Keeps.alloc _ _ _)
          have hgl := hBk.out.lt
          have a1 : (j : Int) < xs.length := by omega
          clear r0 r1 r2 r3 hap hBk hKp hbx ho o
          cases hg : gone from_ to turn e with
          | true =>
            have hnext := hH.out.skip he hg
            rw [hg] at hcall
            have HN := Lib.hid hnext
            have hcl := Lib.hid hcall
            have HGB := Lib.hid hgb
            have HK2 := Lib.hid hk2
            clear hg hcall hnext he hH hgb hk2 hnb hZl
            go_wp2_with fail
            refine hcl.out.mono ?_
            rintro r w2 ⟨rfl, hb2⟩
            have HG3 : Hid (Blk w2 g (cellsE Z ++ T) 55) := HGB.out.below' hb2
            have HK3 : Hid (Keeps (fun k => some g = some k) w w2) := HK2.out.trans (Keeps.ofBelow hb2)
            clear hb2
            go_wp2
            go_roundw
            case rel => exact ⟨i, j + 1, Z, rfl, by go_num, by omega, by omega, HN, HG3, HK3⟩
            case measure => simp [intOf]; omega
          | false =>
            have hnext := hH.out.keep he hg
            rw [hg] at hcall
            have HN := Lib.hid hnext
            have hcl := Lib.hid hcall
            have HGB := Lib.hid hgb
            have HK2 := Lib.hid hk2
            have HNB := Lib.hid hnb
            have hil : i < Z.length := by omega
            clear hg hcall hnext he hH hgb hk2 hnb hZl
            go_wp2_with fail
            refine hcl.out.mono ?_
            rintro r w2 ⟨rfl, hb2⟩
            have hG3 : Blk w2 g (cellsE Z ++ T) 55 := HGB.out.below' hb2
            have hK3 : Keeps (fun k => some g = some k) w w2 := HK2.out.trans (Keeps.ofBelow hb2)
            have hB3 : Blk w2 wr.heap.size e.enc 55 := HNB.out.below' hb2
            have d0 := hB3.cell (j := 0) rfl
            have d1 := hB3.cell (j := 1) rfl
            have d2 := hB3.cell (j := 2) rfl
            have d3 := hB3.cell (j := 3) rfl
            obtain ⟨z, hz⟩ : ∃ z, Z[i]? = some z := ⟨Z[i], by simp [hil]⟩
            obtain ⟨q0, q1, q2, q3⟩ := cellsE_at hz
            have hap : ∀ t u, (cellsE Z)[t]? = some u → (cellsE Z ++ T)[t]? = some u := fun t u hu => by rw [List.getElem?_append_left (List.getElem?_eq_some_iff.1 hu).1]; exact hu
            have p0 := hG3.cell (hap _ _ q0)
            have p1 := hG3.cell (hap _ _ q1)
            have p2 := hG3.cell (hap _ _ q2)
            have p3 := hG3.cell (hap _ _ q3)
            have f0 := hG3.frozen (i * 4)
            have f1 := hG3.frozen (i * 4 + 1)
            have f2 := hG3.frozen (i * 4 + 2)
            have f3 := hG3.frozen (i * 4 + 3)
            have HG4 := Lib.hid hG3
            have HK4 := Lib.hid hK3
            have a2 : (i : Int) < xs.length := by omega
            have a3 : (0 : Int) ≤ i := by omega
            clear hb2 hG3 hK3 hB3 hz q0 q1 q2 q3 hap
            go_wp2
            go_roundw
            case rel =>
              refine ⟨i + 1, j + 1, Z.set i e, by go_num, by go_num, by omega, by omega, HN, ?_, ?_⟩
              · show Blk _ g (cellsE (Z.set i e) ++ T) 55
                rw [← cellsE_set Z T i e hil]
                exact (((HG4.out.setCell _ _).setCell _ _).setCell _ _).setCell _ _
              · exact (((HK4.out.trans (Keeps.setCell _ _ _ (fun _ => rfl))).trans (Keeps.setCell _ _ _ (fun _ => rfl))).trans (Keeps.setCell _ _ _ (fun _ => rfl))).trans (Keeps.setCell _ _ _ (fun _ => rfl))
            case measure => simp [intOf]; omega
        · have hje : j = xs.length := by omega
          subst hje
          have hdone : Z.take i = xs.filter fun e => !gone from_ to turn e := by have := hH.out.done; rwa [List.take_length] at this
          have hZl := hH.out.len
          have hil : (Z.take i).length = i := by rw [List.length_take]; omega
          obtain ⟨i0, hi0, hz0, hs0, hb0⟩ := info_parts info55
          have hzc : (Builtin.zeroCells (Value.agg #[.int .u16 0, .int .u32 0, .int .u16 0, .int .u64 0]).cells (xs.length - i)).size = (xs.length - i) * 4 := by rw [size_zeroCells]; rfl
          obtain ⟨ds, hrun, hds⟩ := run_clearK (P := Try.prog) 45 0 55 i0 _ Try.underlying45 hi0 hz0 hBk.out (i * 4) (xs.length - i) (c - i) (by rw [hzc, List.length_append, cellsE_length]; omega) (by
            intro v hv
            have : v = .int .u16 0 ∨ v = .int .u32 0 ∨ v = .int .u64 0 := by
              simp only [Builtin.zeroCells, Array.toList_map, List.mem_map] at hv
              obtain ⟨q, _, rfl⟩ := hv
              have hq : q % 4 = 0 ∨ q % 4 = 1 ∨ q % 4 = 2 ∨ q % 4 = 3 := by omega
              simp only [Value.cells, List.size_toArray, List.length_cons, List.length_nil]
              rcases hq with h | h | h | h <;> simp [h]
            rcases this with rfl | rfl | rfl <;> rfl)
          have hb2 : Blk (wr.setRow g ds.toArray) g ds 55 := hBk.out.setRow ds
          have hk2 : Keeps (fun k => some g = some k) w (wr.setRow g ds.toArray) := hKp.out.trans (Keeps.setRow _ _ _ rfl)
          have hdl : i * 4 ≤ ds.length := by
            have := congrArg List.length hds
            rw [List.length_take, List.length_take, List.length_append, cellsE_length] at this; omega
          have hfin : SlR (wr.setRow g ds.toArray) (.slice (some ⟨g, 0, none⟩) i c) 4 (xs.filter fun e => !gone from_ to turn e).length (cellsE (xs.filter fun e => !gone from_ to turn e)) := by
            have := hb2.slr 0 4 i c (by omega)
            rw [List.drop_zero, hds, List.take_append_of_le_length (by rw [cellsE_length]; omega), cellsE_take, hdone] at this
            have hlen : (xs.filter fun e => !gone from_ to turn e).length = i := by rw [← hdone, hil]
            rw [hlen]; exact this
          have HR := Lib.hid hrun
          have HF := Lib.hid hfin
          have HK2 := Lib.hid hk2
          have a1 : ¬ (xs.length : Int) < xs.length := by omega
          have a2 : (i : Int) ≤ xs.length := by omega
          have a3 : (0 : Int) ≤ i := by omega
          have a4 : ¬ c = i := by omega
          clear hfin hrun hk2 hb2 hds hzc hdone hil hZl hH hBk hKp
          generalize wr.setRow g ds.toArray = w3 at *
          go_wp2_with (first | (refine wpList_runClear rfl (.tmp 38) 45 rfl (.tuple #[]) w3 (by exact HR.out) ?_))
          go_ret
          exact ⟨_, rfl, HF.out, HK2.out.mono (fun k h => by simpa using h)⟩
end Go.Proofs.Ythekkddmbomimaa
