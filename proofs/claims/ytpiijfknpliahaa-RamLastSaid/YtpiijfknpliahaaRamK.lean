/- A literal whose parts are long; the contract of keys. Conditions: the slice reads as pointers to entries that lie in memory. -/
import Derived.Test.YtpiijfknpliahaaRamI
namespace Go.Proofs.Ytpiijfknpliahaa
open Go.RowKit
set_option maxRecDepth 100000
attribute [local go_sem] Oper.semAt_some

theorem fold_put : ∀ (vs : List Value) (k off : Nat) (cs : List Value), off + k + vs.length ≤ cs.length →
    (vs.zipIdx k).foldl (fun (cs : Array Value) (x : Value × Nat) => cs.setIfInBounds (off + x.2) x.1) cs.toArray = (cs.take (off + k) ++ vs ++ cs.drop (off + k + vs.length)).toArray
  | [], k, off, cs, h => by simp
  | v :: vs, k, off, cs, h => by
    rw [List.zipIdx_cons, List.foldl_cons]
    simp only [List.setIfInBounds_toArray]
    have hl : off + (k + 1) + vs.length ≤ (cs.set (off + k) v).length := by rw [List.length_set]; simp at h; omega
    rw [fold_put vs (k + 1) off (cs.set (off + k) v) hl]
    congr 1
    have hlt : off + k < cs.length := by simp at h; omega
    rw [List.set_eq_take_append_cons_drop, if_pos hlt]
    have e1 : (cs.take (off + k) ++ v :: cs.drop (off + k + 1)) = (cs.take (off + k) ++ [v]) ++ cs.drop (off + k + 1) := by simp
    have e2 : (cs.take (off + k) ++ [v]).length = off + (k + 1) := by simp; omega
    rw [e1, ← e2, List.take_left]
    rw [← List.drop_drop, List.drop_left, List.drop_drop, List.length_cons]
    simp
    congr 1; omega
theorem fill_cons (place : Nat → Option (Nat × Nat)) (cs : List Value) (i : Nat) (v : Value) (vs : List Value) (rest : List (Nat × Value)) (off : Nat) (hp : place i = some (off, vs.length)) (hv : v.cells = vs.toArray) (hl : off + vs.length ≤ cs.length) :
    Instr.fill place cs.toArray ((i, v) :: rest) = Instr.fill place (splice cs off vs).toArray rest := by
  rw [Instr.fill, hp]
  simp only [hv, List.size_toArray, ne_eq, not_true_eq_false, decide_false, Bool.false_or, decide_eq_true_eq, gt_iff_lt]
  rw [if_neg (by omega)]
  congr 1
  have := fold_put vs 0 off cs (by omega)
  rw [Nat.add_zero] at this
  rw [← Array.foldl_toList, Array.toList_zipIdx]
  exact this.trans (by rw [splice, List.append_assoc])

def zeroKey : List Value := List.replicate 32 (.int .u8 0)
theorem info30z : (Try.prog.info? 30).map (fun i => (i.zero, i.size, i.bytes)) = some (some (.agg zeroKey.toArray), 32, 32) := by kernel_rfl
def cellsK (K : List Nat) : List Value := K.flatMap keyR
theorem cellsK_append (A B : List Nat) : cellsK (A ++ B) = cellsK A ++ cellsK B := by simp [cellsK]
theorem cellsK_one (k : Nat) : cellsK [k] = keyR k := by simp [cellsK]
theorem cellsK_length (K : List Nat) : (cellsK K).length = K.length * 32 := by
  induction K with
  | nil => rfl
  | cons k K ih => rw [show cellsK (k :: K) = keyR k ++ cellsK K from rfl, List.length_append, ih, keyR_length, List.length_cons]; omega
theorem wpList_buildKey {ops : Array Oper} {rest : List Oper} {o : Oper} {a : Act} {w : World} {Q : Exit → Act → World → Prop} (hg : o.guard = none) (x : Operand) (ho : o.op = .buildSlice 41 1 #[(0, x)]) (k : Nat) (hx : a.eval x = .agg (keyR k).toArray)
    (h : wpList Try.prog ops Q rest (a.put o.dst (.slice (some ⟨w.heap.size, 0, none⟩) 1 1)) (w.alloc (.cells (keyR k).toArray 30))) : wpList Try.prog ops Q (o :: rest) a w := by
  obtain ⟨i0, hi0, hz0, hs0, hb0⟩ := info_parts info30z
  refine wpList_buildSlice hg 41 30 1 #[(0, x)] ho _ i0 _ Try.underlying41 hi0 hz0 (by rw [hs0]; omega) (by rw [hs0]; omega) ?_ h
  have e1 : ((Array.range (1 * i0.size)).map fun q => (Value.agg zeroKey.toArray).cells[q % (Value.agg zeroKey.toArray).cells.size]!) = zeroKey.toArray := by
    rw [hs0]; kernel_rfl
  rw [e1]
  rw [show (#[(0, x)].map fun (x : Nat × Operand) => match x with | (i, x) => (i, a.eval x)).toList = [(0, Value.agg (keyR k).toArray)] from by simp [hx], fill_cons _ zeroKey 0 _ (keyR k) [] 0 (by simp [hs0, keyR_length]) rfl (by simp [zeroKey, keyR_length])]
  simp [Instr.fill, splice, zeroKey, keyR_length]

set_option maxHeartbeats 1000000 in
theorem keys_any (w : World) (v : Value) (E : Ents) (hv : SlR w v 1 E.length (cellsP E)) (hE : ∀ p ∈ E, EntAt w p) (hn : E.length ≤ 1073741824) :
    Calls Try.prog 45 #[v] w fun e w' => ∃ v', e = .returned v' ∧ SlR w' v' 32 E.length (cellsK (E.map fun p => p.2.k)) ∧ Keeps (fun _ => False) w w' := by
  obtain ⟨_, av, c, rfl, hc⟩ := hv
  obtain ⟨i0, hi0, hz0, hs0, hb0⟩ := info_parts info30z
  have HC := Lib.hid hc
  have HO := Lib.hid hE
  have HI0 := Lib.hid hi0
  have HZ0 := Lib.hid hz0
  have HS0 := Lib.hid hs0
  have HB0 := Lib.hid hb0
  have hnil := Lib.hid (SlO.nil w 30 32)
  clear hc hE hi0 hz0 hs0 hb0
  go_enter Try.func45, Try.ntmps45
  go_wp2
  go_loopw [3, 8] (fun s3 s8 wr => ∃ (m : Nat), s8 = .int .i64 m ∧ m ≤ E.length ∧ Hid (SlO wr s3 30 32 m (cellsK ((E.take m).map fun p => p.2.k))) ∧ Hid (∀ g, blkOf s3 = some g → w.heap.size ≤ g) ∧ Hid (Keeps (fun _ => False) w wr)) (fun _ s8 _ => E.length - (intOf s8).toNat)
  case atStart => exact ⟨0, rfl, Nat.zero_le _, hnil, Lib.hid (fun g hg => by simp [blkOf] at hg), Lib.hid (Keeps.refl _ _)⟩
  case round =>
    obtain ⟨m, rfl, hm, hO, hG, hK⟩ := hrel
    by_cases hlt : m < E.length
    · rcases HC.out with h0 | ⟨b, off, rfl, hbl, hcc⟩
      · omega
      obtain ⟨p, hp⟩ : ∃ p, E[m]? = some p := ⟨E[m], by simp [hlt]⟩
      have c0 := (hK.out.cell (p := ⟨b, off + m, none⟩) hbl id).trans (hcc _ _ (cellsP_get hp))
      obtain ⟨vb, hblk, _⟩ := (HO.out p (List.mem_of_getElem? hp)).ex
      have hpart := (hblk.keeps hK.out id).part 0 (keyR p.2.k) (ent_key p.2 vb)
      have hOA := hO.out.keeps (Keeps.alloc (fun _ => False) wr (.cells (keyR p.2.k).toArray 30)) (fun _ _ h => h)
      have hlit : SlR (wr.alloc (.cells (keyR p.2.k).toArray 30)) (.slice (some ⟨wr.heap.size, 0, none⟩) 1 1) 32 1 (keyR p.2.k) :=
        (Blk.new wr (keyR p.2.k) 30).slr 0 32 1 1 (by simp [keyR_length])
      obtain ⟨v', w6, hrun, hown, hk6, hbk⟩ := run_appendO (P := Try.prog) 41 41 41 30 i0 _ 32 32 Try.underlying41 Try.underlying41 HI0.out HZ0.out HS0.out HB0.out rfl hOA hlit (keyR_one _) (by unfold maxLen; omega) (by omega)
      have hK6 : Keeps (fun _ => False) w w6 := (hK.out.trans (Keeps.alloc _ _ _)).transNew hk6 (fun k h1 h2 => by have := hG.out k h2; omega)
      have hG6 : ∀ g, blkOf v' = some g → w.heap.size ≤ g := by
        intro g hg
        rcases hbk with hh | ⟨hh, _⟩
        · rw [hh] at hg; exact hG.out g hg
        · rw [hh] at hg; rw [← Option.some.inj hg]; have := hK.out.size; simp; omega
      have hO6 : SlO w6 v' 30 32 (m + 1) (cellsK ((E.take (m + 1)).map fun p => p.2.k)) := by
        rw [List.take_add_one, hp, Option.toList_some, List.map_append, cellsK_append, show cellsK ([p].map fun p => p.2.k) = keyR p.2.k from cellsK_one _]
        exact hown
      have O6 := Lib.hid hO6
      have G6 := Lib.hid hG6
      have K6 := Lib.hid hK6
      have HR := Lib.hid hrun
      have HPT := Lib.hid hpart
      have e1 : IntKind.i64.wrap ((m : Int) + 1) = (m : Int) + 1 := by rw [IntKind.wrap_i64]; omega
      have a1 : (m : Int) < E.length := by omega
      have a2 : (0 : Int) ≤ m := by omega
      clear hO6 hG6 hK6 hrun hown hbk hk6 hlit hOA hpart hblk hcc hp
      go_wp2_with (first
        | (refine wpList_load_part rfl 30 (.tmp 15) rfl p.1 0 rfl (keyR p.2.k) (by exact HPT.out) _ Try.underlying30 rfl (sizeKey _) ?_)
        | (refine wpList_buildKey rfl (.tmp 16) rfl p.2.k rfl ?_)
        | (refine wpList_runAppend rfl (.tmp 12) (.tmp 17) 41 41 rfl v' w6 (by exact HR.out) ?_))
      go_roundw
      case rel => exact ⟨m + 1, by go_num, by omega, O6, G6, K6⟩
      case measure => simp [intOf]; omega
    · obtain rfl : m = E.length := by omega
      have a1 : ¬ (E.length : Int) < E.length := by omega
      have hfin := hO.out.slr
      rw [List.take_length] at hfin
      have HF := Lib.hid hfin
      obtain ⟨va, vc, rfl, _⟩ := hO.out.form
      clear hfin
      go_wp2
      go_ret
      exact ⟨_, rfl, HF.out, hK.out⟩
end Go.Proofs.Ytpiijfknpliahaa
