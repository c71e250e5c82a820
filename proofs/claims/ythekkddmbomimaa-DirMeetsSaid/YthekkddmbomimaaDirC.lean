/- The contract of (*Dir).Insert over a directory in memory: it comes to the document's insert. Conditions: the receiver is a directory in memory; the key reads as bytes; the numbers are of their kinds. -/
import Derived.Test.YthekkddmbomimaaDirB
namespace Go.Proofs.Ythekkddmbomimaa
open Go.RowKit
set_option maxRecDepth 100000

theorem size23 : (Try.prog.info? 23).map (·.size) = some 32 := by kernel_rfl
theorem size23k {ks : List Value} {n t : Nat} (hk : IsKey ks n t) : (Try.prog.info? 23).map (·.size) = some ks.toArray.size := by
  rw [List.size_toArray, hk.length]; exact size23

/-- An entry laid behind a bucket's entries, where there is room. -/
theorem append_spare {w : World} {p pl pn s : Nat} {L : List (List En)} (h : DirAt w p pl pn s L) (i : Nat) (l : List En) (hl : L[i]? = some l) (hr : l.length < s) (x : Value) (e : En) (hx : SlR w x 4 1 e.enc) :
    ∃ w', (Builtin.append_ #[45, 45] 45 #[.slice (some ⟨pl, i * s * 4, none⟩) l.length s, x]).run Try.prog w = .ok (.slice (some ⟨pl, i * s * 4, none⟩) (l.length + 1) s) w' ∧ DirAt w' p pl pn s L ∧
      SlR w' (.slice (some ⟨pl, i * s * 4, none⟩) (l.length + 1) s) 4 (l ++ [e]).length (cellsE (l ++ [e])) ∧ Keeps (fun k => k = pl) w w' := by
  obtain ⟨E, hE, hF⟩ := h.ent
  have hi : i < L.length := (List.getElem?_eq_some_iff.1 hl).1
  have hle := hF.le i hi
  obtain ⟨h1, h2⟩ := hF.2 i l hl
  obtain ⟨i0, hi0, -, hz1, -⟩ := info_parts info55
  have hrun := run_appendRoomK (P := Try.prog) (w := w) 45 45 45 55 i0 Try.underlying45 hi0 4 hz1 Try.underlying45 hE (i * s * 4) l.length s hx (by omega) (by rw [cellsE_length]; omega) (by rw [← cellsE_one]; exact cellsE_one_cell _)
  have e1 : i * s * 4 + l.length * 4 = (i * s + l.length) * 4 := by omega
  rw [e1, ← cellsE_one, cellsE_splice] at hrun
  have hk : Keeps (fun k => k = pl) w (w.setRow pl (cellsE (splice E (i * s + l.length) [e])).toArray) := Keeps.setRow _ _ _ rfl
  have hb := hE.setRow (cellsE (splice E (i * s + l.length) [e]))
  have hsp : splice E (i * s + l.length) [e] = splice E (i * s) (l ++ [e]) := by
    have hd : (E.drop (i * s)).take l.length = l := h2
    have h3 : E.take (i * s + l.length) = E.take (i * s) ++ l := by rw [List.take_add, hd]
    unfold splice
    rw [h3]; simp [Nat.add_assoc]
  rw [hsp] at hrun hk hb
  have hF2 : Flat s L (splice E (i * s) (l ++ [e])) := by
    have := hF.set i hi (l ++ [e]) (by simp; omega)
    refine ⟨by rw [splice_length _ _ _ (by simp; omega)]; exact hF.1, fun j m hj => ?_⟩
    by_cases hij : i = j
    · subst hij
      obtain rfl : l = m := by rw [hl] at hj; simpa using hj
      refine ⟨h1, ?_⟩
      have hs2 := (this.2 i (l ++ [e]) (by simp [hi])).2
      have := congrArg (List.take l.length) hs2
      rw [List.take_take, Nat.min_eq_left (by simp)] at this
      rw [this]; simp
    · exact this.2 j m (by rw [List.getElem?_set, if_neg hij]; exact hj)
  refine ⟨_, hrun, ⟨h.s1, h.s16, h.b1, h.b4, h.lp, h.ln, h.np, h.head.keeps hk (fun e => h.lp e.symm), h.cnt.keeps hk (fun e => h.ln e.symm), ⟨_, hb, hF2⟩, h.ok⟩, ?_, hk⟩
  have := hb.slr (i * s * 4) 4 (l ++ [e]).length s (by rw [cellsE_length, splice_length _ _ _ (by simp; omega)]; simp; omega)
  rw [cellsE_drop, cellsE_take, bucket_same _ _ _ (by simp; omega)] at this
  simpa using this

theorem rangeAt_keeps {S : Nat → Prop} {w w' : World} {b o : Nat} {cs : List Value} (h : w.rangeAt b o cs) (k : Keeps S w w') (hb : b < w.heap.size) (hs : ¬ S b) : w'.rangeAt b o cs :=
  fun j v hv => (k.cell (p := ⟨b, o + j, none⟩) hb hs).trans (h j v hv)

theorem bucket_dir2 {w : World} {p pl pn s : Nat} {L : List (List En)} (h : DirAt w p pl pn s L) (i : Nat) (l : List En) (hl : L[i]? = some l) :
    Calls Try.prog 38 #[.pointer (some ⟨p, 0, none⟩), .int .i64 i] w fun e w' => e = .returned (.slice (some ⟨pl, i * s * 4, none⟩) l.length s) ∧ DirAt w' p pl pn s L ∧ Keeps (fun _ => False) w w' ∧
      SlR w' (.slice (some ⟨pl, i * s * 4, none⟩) l.length s) 4 l.length (cellsE l) :=
  (bucket_dir h i l hl).mono fun e w' ⟨he, ⟨n, hn⟩, hR⟩ => by
    subst hn
    exact ⟨he, h.keeps (Keeps.drewN (fun _ => False) _ _) id id id, Keeps.drewN _ _ _, hR⟩

set_option maxHeartbeats 400000 in
theorem Insert_form {w : World} {p pl pn s : Nat} {L : List (List En)} (h : DirAt w p pl pn s L) {ks : List Value} (at_ sec turn : Nat)
    (hf : sec = 0 ∨ 9223372036854775808 ≤ turn) :
    Calls Try.prog 17 #[.pointer (some ⟨p, 0, none⟩), .agg ks.toArray, .int .u32 at_, .int .u16 sec, .int .u64 turn] w fun e w' =>
      e = .returned (.int .i64 40) ∧ DirAt w' p pl pn s L ∧ Keeps (fun k => k = pl ∨ k = pn) w w' := by
  have HD := Lib.hid h
  clear h
  by_cases h0 : sec = 0
  · subst h0
    go_enter Try.func17, Try.ntmps17
    go_wp2
    go_ret
    exact ⟨rfl, HD.out.below (Below.alloc1 _ _), Keeps.alloc _ _ _⟩
  · have b0 : ((sec : Int) == 0) = false := beq_eq_false_iff_ne.2 (by omega)
    have b1 : (9223372036854775808 : Int) ≤ (turn : Int) := by omega
    clear hf h0
    go_enter Try.func17, Try.ntmps17
    go_wp2
    go_ret
    exact ⟨rfl, HD.out.below (Below.alloc1 _ _), Keeps.alloc _ _ _⟩

set_option maxHeartbeats 400000 in
theorem Insert_full {w : World} {p pl pn s : Nat} {L : List (List En)} (h : DirAt w p pl pn s L) {ks : List Value} {n t : Nat} (hk : IsKey ks n t) (at_ sec turn : Nat)
    (hf : ¬ (sec = 0 ∨ 9223372036854775808 ≤ turn)) (i : Nat) (hi : n % L.length = i) (l : List En) (hl : L[i]? = some l) (hle : l.length = s) :
    Calls Try.prog 17 #[.pointer (some ⟨p, 0, none⟩), .agg ks.toArray, .int .u32 at_, .int .u16 sec, .int .u64 turn] w fun e w' =>
      e = .returned (.int .i64 50) ∧ DirAt w' p pl pn s L ∧ Keeps (fun k => k = pl ∨ k = pn) w w' := by
  have hks : Blk (w.alloc (.cells ks.toArray 23)) w.heap.size ks 23 := Blk.new w ks 23
  have b0 : ((sec : Int) == 0) = false := beq_eq_false_iff_ne.2 (by omega)
  have b1 : decide ((9223372036854775808 : Int) ≤ (turn : Int)) = false := by simp; omega
  have hD1 : DirAt (w.alloc (.cells ks.toArray 23)) p pl pn s L := h.below (Below.alloc1 _ _)
  have hcall := Bucket_any hk (w.alloc (.cells ks.toArray 23)) p L.length L.length _ hD1.lts.1 h.b1 h.b4 (hD1.head.cell rfl)
  rw [hi] at hcall
  have a1 : (0 : Int) ≤ i := by omega
  have a2 : (i : Int) < L.length := by have := (List.getElem?_eq_some_iff.1 hl).1; omega
  have b2 : ((l.length : Int) == (s : Int)) = true := beq_iff_eq.2 (by omega)
  have HC := Lib.hid hcall
  have HK := Lib.hid hks
  have HS := Lib.hid (size23k hk)
  have HL := Lib.hid hl
  clear hf hcall hks hi hl hle h
  go_enter Try.func17, Try.ntmps17
  go_wp2_with (first | (refine wpList_load_row rfl 23 _ rfl w.heap.size rfl 23 ks.toArray (0, 0) _ HK.out Try.underlying23 rfl HS.out ?_))
  refine HC.out.mono ?_
  rintro e w1 ⟨rfl, hb1⟩
  have hD2 : DirAt w1 p pl pn s L := hD1.below hb1
  have c0 := hD2.head.cell (j := 0) rfl
  have c2 := hD2.head.cell (j := 2) rfl
  have cn : w1.cell? ⟨pn, i, none⟩ = some (.int .i64 l.length) := hD2.cnt.cell (by simp [HL.out])
  have H2 := Lib.hid hD2
  have HB := Lib.hid hb1
  clear hD2 hb1 hD1
  go_wp2
  go_quiet (fail)
  go_wp2
  go_ret
  exact ⟨rfl, H2.out.keeps (Keeps.drewN (fun _ => False) _ _) id id id, ((Keeps.alloc _ _ _).trans (Keeps.ofBelow HB.out)).trans (Keeps.drewN _ _ _)⟩

set_option maxHeartbeats 1000000 in
theorem Insert_room {w : World} {p pl pn s : Nat} {L : List (List En)} (h : DirAt w p pl pn s L) {ks : List Value} {n t : Nat} (hk : IsKey ks n t) (at_ sec turn : Nat) (h1 : at_ < 4294967296) (h2 : sec < 65536) (h3 : turn < 18446744073709551616)
    (hf : ¬ (sec = 0 ∨ 9223372036854775808 ≤ turn)) (i : Nat) (hi : n % L.length = i) (l : List En) (hl : L[i]? = some l) (hle : l.length < s) :
    Calls Try.prog 17 #[.pointer (some ⟨p, 0, none⟩), .agg ks.toArray, .int .u32 at_, .int .u16 sec, .int .u64 turn] w fun e w' =>
      e = .returned (.int .i64 0) ∧ DirAt w' p pl pn s (L.set i (l ++ [⟨t, at_, sec, turn⟩])) ∧ Keeps (fun k => k = pl ∨ k = pn) w w' := by
  have hks : Blk (w.alloc (.cells ks.toArray 23)) w.heap.size ks 23 := Blk.new w ks 23
  have b0 : ((sec : Int) == 0) = false := beq_eq_false_iff_ne.2 (by omega)
  have b1 : decide ((9223372036854775808 : Int) ≤ (turn : Int)) = false := by simp; omega
  have hD1 : DirAt (w.alloc (.cells ks.toArray 23)) p pl pn s L := h.below (Below.alloc1 _ _)
  have hcall := Bucket_any hk (w.alloc (.cells ks.toArray 23)) p L.length L.length _ hD1.lts.1 h.b1 h.b4 (hD1.head.cell rfl)
  rw [hi] at hcall
  have hit : i < L.length := (List.getElem?_eq_some_iff.1 hl).1
  have a1 : (0 : Int) ≤ i := by omega
  have a2 : (i : Int) < L.length := by omega
  have b2 : ((l.length : Int) == (s : Int)) = false := beq_eq_false_iff_ne.2 (by omega)
  have hone := hk.one
  have hu23 := Try.underlying23
  have hn23 := hk.length
  have hlp := h.lts.2.1
  have hln := h.lts.2.2
  have hok : ∀ x ∈ l ++ [(⟨t, at_, sec, turn⟩ : En)], x.ok := by
    intro x hx
    rcases List.mem_append.1 hx with hx | hx
    · exact h.ok l (List.mem_of_getElem? hl) x hx
    · obtain rfl : x = ⟨t, at_, sec, turn⟩ := by simpa using hx
      exact ⟨by have := hk.tag; show t < 65536; omega, h1, h2, h3⟩
  have HO := Lib.hid hok
  have HC := Lib.hid hcall
  have HK := Lib.hid hks
  have HS := Lib.hid (size23k hk)
  have HL := Lib.hid hl
  have H1 := Lib.hid hone
  have HN := Lib.hid hn23
  have HT := fun w => Lib.hid (Tag_any hk w)
  clear hf hcall hks hi hl h h1 h2 h3 hone hn23 hok hu23
  go_enter Try.func17, Try.ntmps17
  go_wp2_with (first | (refine wpList_load_row rfl 23 _ rfl w.heap.size rfl 23 ks.toArray (0, 0) _ HK.out Try.underlying23 rfl HS.out ?_))
  refine HC.out.mono ?_
  rintro e w1 ⟨rfl, hb1⟩
  have hD2 : DirAt w1 p pl pn s L := hD1.below hb1
  have c0 := hD2.head.cell (j := 0) rfl
  have c2 := hD2.head.cell (j := 2) rfl
  have cn : w1.cell? ⟨pn, i, none⟩ = some (.int .i64 l.length) := hD2.cnt.cell (by simp [HL.out])
  have H2 := Lib.hid hD2
  have HB := Lib.hid hb1
  clear hD2 hb1 hD1
  go_wp2
  go_quiet (fail)
  go_wp2_with fail
  have hD3 : DirAt (w1.drewN nq).drew p pl pn s L := H2.out.keeps ((Keeps.drewN (fun _ => False) _ _).trans (Keeps.drew _ _)) id id id
  have hkp3 : Keeps (fun k => k = pl ∨ k = pn) w (w1.drewN nq).drew := ((Keeps.alloc _ _ _).trans (Keeps.ofBelow HB.out)).trans ((Keeps.drewN _ _ _).trans (Keeps.drew _ _))
  have hR3 : (w1.drewN nq).drew.rangeAt w.heap.size 0 ks := (HK.out.below' HB.out).range
  have hs3 : w.heap.size < (w1.drewN nq).drew.heap.size := (HK.out.below' HB.out).lt
  have hcall := Lib.hid (bucket_dir2 hD3 i l HL.out)
  have K3 := Lib.hid hkp3
  have R3 := Lib.hid hR3
  clear H2 HB hD3 hkp3 hR3 c0 c2 cn
  generalize w1.drewN nq = w2 at *
  have hu := Try.underlying23
  have hi2 : (Try.prog.info? 23).map (·.size) = some ks.length := by have := HS.out; rwa [List.size_toArray] at this
  have hn2 := HN.out
  have ho2 := H1.out
  go_region_held3 (fun w' => w'.rangeAt w.heap.size 0 ks) (first | exact R3.out | assumption | go_keep_ranges)
    (first
      | (go_at_call 38; refine hcall.out.mono ?_; rintro e w3 ⟨rfl, hD4, hK4, hS4⟩; have hR4 : w3.rangeAt w.heap.size 0 ks := rangeAt_keeps R3.out hK4 hs3 id; have hs4 := Nat.lt_of_lt_of_le hs3 hK4.size)
      | (go_at_call 11; refine (HT _).out.mono ?_; rintro e w4 ⟨rfl, hb5⟩; have hD5 := hD4.below hb5; have hS5 := hS4.below hb5; have hR5 : w4.rangeAt w.heap.size 0 ks := rangeAt_keeps hR4 (Keeps.ofBelow (S := fun _ => False) hb5) hs4 id; have hs5 := Nat.lt_of_lt_of_le hs4 hb5.size)
      | (go_at_call 37; refine (lay_dir hD6 i hit _ (l ++ [⟨t, at_, sec, turn⟩]) hS6 (by simp; omega) HO.out).mono ?_; rintro e w7 ⟨rfl, hD7, hK7⟩; have hR7 : w7.rangeAt w.heap.size 0 ks := rangeAt_keeps hR6 hK7 hs6 (by omega))
      | (obtain ⟨w5, hrun, hD6, hS6, hK6⟩ := append_spare (hD5.below (Below.alloc1 _ (.cells #[.int .u16 t, .int .u32 at_, .int .u16 sec, .int .u64 turn] 55))) i l HL.out hle (.slice (some ⟨w4.heap.size, 0, none⟩) 1 1) ⟨t, at_, sec, turn⟩ ((Blk.new w4 [.int .u16 t, .int .u32 at_, .int .u16 sec, .int .u64 turn] 55).slr 0 4 1 1 (by simp)); have hs6 : w.heap.size < w5.heap.size := Nat.lt_of_lt_of_le (Nat.lt_of_lt_of_le hs5 (by simp)) hK6.size; have hR6 : w5.rangeAt w.heap.size 0 ks := rangeAt_keeps (World.rangeAt_alloc hR5 _) hK6 (by simp; omega) (by omega); have HRUN := Lib.hid hrun; clear hrun; refine step_runAppend (by rfl) (.tmp 37) (.tmp 44) 45 45 (by rfl) _ w5 (by exact HRUN.out) ?_))
  have hkeep : Keeps (fun k => k = pl ∨ k = pn) w w7 :=
    ((((K3.out.trans (hK4.mono (fun _ h => h.elim))).trans (Keeps.ofBelow hb5)).trans (Keeps.alloc _ _ _)).trans (hK6.mono (fun _ h => .inl h))).trans hK7
  have HKP := Lib.hid hkeep
  have HD7 := Lib.hid hD7
  clear hkeep hD7 hK7 hK6 hD6 hS6 hb5 hD5 hS5 hK4 hD4 hS4
  go_wp2
  go_ret
  exact ⟨rfl, HD7.out, HKP.out⟩

/-- Insert: the document's. -/
theorem Insert_dir {w : World} {p pl pn s : Nat} {L : List (List En)} (h : DirAt w p pl pn s L) {ks : List Value} {n t : Nat} (hk : IsKey ks n t) (at_ sec turn : Nat) (h1 : at_ < 4294967296) (h2 : sec < 65536) (h3 : turn < 18446744073709551616) :
    Calls Try.prog 17 #[.pointer (some ⟨p, 0, none⟩), .agg ks.toArray, .int .u32 at_, .int .u16 sec, .int .u64 turn] w fun e w' =>
      e = .returned (.int .i64 (mIns s L (n % L.length) t at_ sec turn).1) ∧ DirAt w' p pl pn s (mIns s L (n % L.length) t at_ sec turn).2 ∧ Keeps (fun k => k = pl ∨ k = pn) w w' := by
  have hi : n % L.length < L.length := Nat.mod_lt _ (by have := h.b1; omega)
  have hl : L[n % L.length]? = some L[n % L.length] := by simp [hi]
  have hd : L.getD (n % L.length) [] = L[n % L.length] := by simp [hi]
  have hle := h.le _ _ hl
  unfold mIns
  split
  · rename_i hf; exact Insert_form h at_ sec turn hf
  · rename_i hf
    rw [hd]
    split
    · rename_i hs; exact Insert_full h hk at_ sec turn hf _ rfl _ hl (by omega)
    · rename_i hs; exact Insert_room h hk at_ sec turn h1 h2 h3 hf _ rfl _ hl (by omega)
end Go.Proofs.Ythekkddmbomimaa
