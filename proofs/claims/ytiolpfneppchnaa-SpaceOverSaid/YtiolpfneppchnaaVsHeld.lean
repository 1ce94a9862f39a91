/- Keys of a map, collected and sorted: Held, Pins, Pinned, Pages. -/
import Derived.Test.YtiolpfneppchnaaVsSort
namespace Go.Proofs.Ytiolpfneppchnaa
open Go Go.RowKit Go.Vs

theorem und_ints : Try.prog.underlying 37 = some (.slice 3) := by kernel_rfl
theorem info_int : (Try.prog.info? 3).map (fun i => (i.zero, i.size, i.bytes)) = some (some (.int .i64 0), 1, 8) := by kernel_rfl

theorem ownsRow_same {w w' : World} {base : Nat} {E : TypeId} {sz n : Nat} {v : Value} {xs : List Value} (h : w.ownsRow base E sz v n xs) (hs : ∀ g, v.ownBlock = some g → w'.heap[g]? = w.heap[g]?) : w'.ownsRow base E sz v n xs := by
  obtain ⟨h1, h2⟩ := h
  refine ⟨h1, ?_⟩
  rcases h2 with h2 | ⟨g, cap, cur, rfl, hb, hg, r⟩
  · exact .inl h2
  · exact .inr ⟨g, cap, cur, rfl, hb, (hs g rfl).trans hg, r⟩

theorem len_le_of_sub : ∀ (a b : List Nat), a.Nodup → (∀ x, x ∈ a → x ∈ b) → a.length ≤ b.length
  | [], _, _, _ => Nat.zero_le _
  | x :: a, b, hn, hs => by
    have hx := hs x (by simp)
    have hn' := List.nodup_cons.1 hn
    have := len_le_of_sub a (b.erase x) hn'.2 (fun y hy => (List.mem_erase_of_ne (fun e => hn'.1 (by rw [← e]; exact hy))).2 (hs y (by simp [hy])))
    rw [List.length_erase_of_mem hx] at this
    have := List.length_pos_of_mem hx
    rw [List.length_cons]; omega

/-- numbers below a bound, each once: no more than the bound. -/
theorem nodup_le {ks : List Int} (h : ks.Nodup) (n : Nat) (hb : ∀ k ∈ ks, 0 ≤ k ∧ k < n) : ks.length ≤ n := by
  have h1 : (ks.map Int.toNat).Nodup := by
    rw [List.nodup_iff_pairwise_ne, List.pairwise_map]
    refine (List.nodup_iff_pairwise_ne.1 h).imp_of_mem (fun {a b} ha hb' hne e => hne ?_)
    have := (hb a ha).1; have := (hb b hb').1
    omega
  have h2 : ∀ x, x ∈ ks.map Int.toNat → x ∈ List.range n := by
    intro x hx
    obtain ⟨k, hk, rfl⟩ := List.mem_map.1 hx
    have := hb k hk
    rw [List.mem_range]; omega
  have := len_le_of_sub _ _ h1 h2
  simpa using this


set_option maxRecDepth 100000 in
set_option maxHeartbeats 800000 in
theorem pool_held (p d most n hand : Nat) (fr : Nat → Fr) (at' : Int → Option Nat) (w : World) (T : Tags) (h : PoolM w T p d most n hand fr at') (hm : 0 < most) (ha : ∀ k i, at' k = some i → 0 ≤ k ∧ k < 4096) :
    Calls Try.prog 53 #[ptr p] w fun e w' => ∃ v ks, e = .returned v ∧ KeysOf (fun k => (at' k).map fun i => ptr (fr i).blk) ks ∧ w'.ownsRow w.heap.size 3 1 v ks.length ((sorted ks).map (Value.int .i64)) ∧ Below w.heap.size w w' := by
  obtain ⟨m, lv, h1, h2, h3, h4, h5, h6⟩ := h
  have c1 : w.cell? ⟨p, 1, none⟩ = some (.int .i64 most) := by rw [cell_at h3]; rfl
  have c4 : w.cell? ⟨p, 4, none⟩ = some (.map (some m)) := by rw [cell_at h3]; rfl
  have hbn : ∀ ks, KeysOf (fun k => (at' k).map fun i => ptr (fr i).blk) ks → ks.length ≤ 1048576 := by
    intro ks hk
    refine Nat.le_trans (nodup_le hk.1 4096 (fun k hm => ?_)) (by omega)
    obtain ⟨v, hv⟩ := Option.isSome_iff_exists.1 ((hk.2 k).1 hm)
    obtain ⟨i, hi, _⟩ := Option.map_eq_some_iff.1 hv
    exact ha k i hi
  have HB := Lib.hid hbn; have H5 := Lib.hid h5
  clear h1 h2 h3 h4 h6 ha hbn h5
  go_enter Try.func53, Try.ntmps53
  go_wp2_with (first | (go_at_call 85; refine (pool_given p w most c1 hm).mono ?_; rintro e w' ⟨rfl, rfl⟩) | (with_reducible refine hold_range _ _ rfl ?_))
  unfold Hold
  refine wpList_range_map rfl _ _ rfl _ _ und_pmap m _ rfl H5.out ?_
  intro w2 left hit hks hbl hz
  have HBN : Hid (left.length ≤ 1048576) := Lib.hid (HB.out left hks)
  have HIT := Lib.hid hit; have HKS := Lib.hid hks; have HBL := Lib.hid hbl; have HZ := Lib.hid hz
  clear hit hks hbl hz
  obtain ⟨ri, hri⟩ : ∃ ri, ri = w.heap.size := ⟨_, rfl⟩
  rw [← hri] at HIT HBL HZ ⊢
  have HRI := Lib.hid hri
  clear hri
  go_frame
  go_wp2_with fail
  go_loopg [3, 4] left.length (fun k uo _ wr => ∃ (left' ks : List Int), left'.length = k ∧ Hid (IIter wr ri m (fun k => (at' k).map fun i => ptr (fr i).blk) left') ∧ Hid (wr.ownsRow ri 3 1 uo ks.length (ks.map (Value.int .i64))) ∧ Hid (ks.Nodup ∧ (∀ x, x ∈ ks ↔ x ∈ left ∧ x ∉ left') ∧ ∀ x, x ∈ left' → x ∈ left) ∧ Hid (Below ri w wr) ∧ Hid (∀ g, uo.ownBlock = some g → g ≠ ri) ∧ Hid (ks.length + left'.length = left.length))
  case atStart => exact ⟨left, [], rfl, HIT, Lib.hid (World.ownsRow_nil _ _ _ _), Lib.hid ⟨List.nodup_nil, by simp, fun _ h => h⟩, HBL, Lib.hid (fun g hg => by simp [Value.ownBlock] at hg), Lib.hid (by simp)⟩
  case round =>
    obtain ⟨left', ks, hk, HI', HOW, HKS', HB', HNE, HLEN⟩ := hrel
    go_wp2_with (with_reducible refine hold_next _ rfl ?_)
    unfold Hold
    refine wpList_next_map rfl _ rfl m _ _ left' rfl HI'.out ?_ ?_
    rotate_left
    · intro kx v w3 hmem hfx hit3 ho3 hz3 hos3 htp3 hou3 hen
      have hb3 : Below ri w w3 := ⟨hos3.trans HB'.out.os, htp3.trans HB'.out.tape, hou3.trans HB'.out.output, by rw [hz3]; exact HB'.out.size, fun j hj => (ho3 j (by omega)).trans (HB'.out.block j hj)⟩
      have how3 : w3.ownsRow ri 3 1 _ ks.length (ks.map (Value.int .i64)) := ownsRow_same HOW.out (fun g hg => ho3 g (HNE.out g hg))
      have hmlt : m < ri := by rw [HRI.out]; exact (IMap.lt H5.out)
      have hrlt : ri < w3.heap.size := by rw [hz3]; exact HI'.out.lt
      have hlpos := List.length_pos_of_mem hmem
      have HIT3 := Lib.hid hit3; have HB3 := Lib.hid hb3; have HOW3 := Lib.hid how3; have HFX := Lib.hid hfx; have HK := Lib.hid hk; have HMEM := Lib.hid hmem
      clear hit3 ho3 hz3 hos3 htp3 hou3 hb3 how3 hfx hk hmem
      go_frame
      go_wp2_with (at_builtin; refine hold_of ?_)
      unfold Hold
      obtain ⟨i0, hi0, hz0, hz1, hz2⟩ := info_parts info_int
      refine wpList_append_own_at _ rfl _ _ _ rfl ri 3 i0 _ 1 8 und_ints hi0 hz0 hz1 hz2 rfl (by omega) _ ks.length _ rfl (HOW3.out.alloc _) _ 1 1 [.int .i64 kx] rfl rfl (cell_one_new _ _ _) (by intro u hu; simp at hu; subst hu; rfl) (by unfold maxLen; have := HLEN.out; have := HBN.out; omega) (by have := HLEN.out; have := HBN.out; omega) (by have := HB3.out.size; have := HRI.out; simp; omega) ?_
      intro v' w4 hown4 hg4 _ hloc
      have hnd := HI'.out.nodup
      have hm4 : w4.heap[m]? = w3.heap[m]? := (hg4.block m (by simp; omega) (fun e => by have := (HOW3.out.lt m e.symm).1; omega)).trans (alloc_old (by omega))
      have hr4 : w4.heap[ri]? = w3.heap[ri]? := (hg4.block ri (by simp; omega) (fun e => HNE.out ri e.symm rfl)).trans (alloc_old hrlt)
      have hne4 : ∀ g, v'.ownBlock = some g → g ≠ ri := by
        intro g hg
        rcases hloc with h | h
        · exact HNE.out g (h.symm.trans hg)
        · rw [h] at hg
          simp only [Option.some.injEq, alloc_size] at hg
          omega
      have hb4 : Below ri w w4 := (HB3.out.alloc (by have := HB3.out.size; have := HRI.out; omega) _).grown hg4 (by have := HB3.out.size; have := HRI.out; simp; omega) (fun g hg => (HOW3.out.lt g hg).1)
      rw [show ks.map (Value.int .i64) ++ [Value.int .i64 kx] = (ks ++ [kx]).map (Value.int .i64) by simp] at hown4
      have HIT4 := Lib.hid (HIT3.out.kept hr4 hm4); have HB4 := Lib.hid hb4; have HOW4 := Lib.hid hown4; have HNE4 := Lib.hid hne4
      have HN4 : Hid ((ks ++ [kx]).Nodup ∧ (∀ x, x ∈ ks ++ [kx] ↔ x ∈ left ∧ x ∉ left'.erase kx) ∧ ∀ x, x ∈ left'.erase kx → x ∈ left) := Lib.hid (by
        obtain ⟨n1, n2, n3⟩ := HKS'.out
        have hkl := n3 kx HMEM.out
        refine ⟨?_, fun x => ?_, fun x hx => n3 x (List.mem_of_mem_erase hx)⟩
        · rw [List.nodup_append]
          refine ⟨n1, by simp, ?_⟩
          intro a ha b hb e
          simp only [List.mem_singleton] at hb
          have := ((n2 a).1 ha).2
          rw [e, hb] at this
          exact this HMEM.out
        · rw [List.mem_append, List.mem_singleton, n2 x, hnd.mem_erase_iff]
          by_cases e : x = kx
          · subst e; simp [hkl]
          · simp [e])
      have HL4 : Hid ((ks ++ [kx]).length + (left'.erase kx).length = left.length) := Lib.hid (by rw [List.length_append, List.length_erase_of_mem HMEM.out, List.length_singleton]; have := HLEN.out; omega)
      have HLT : Hid ((left'.erase kx).length < gk) := Lib.hid (by rw [List.length_erase_of_mem HMEM.out, ← HK.out]; omega)
      rw [show ks.length + 1 = (ks ++ [kx]).length by simp] at HOW4
      clear hm4 hr4 hne4 hb4 hown4 hg4 hloc hnd hmlt hrlt hlpos
      go_frame
      go_wp2_with fail
      go_roundg (left'.erase kx).length
      case measure => exact HLT.out
      case rel => exact ⟨_, _, rfl, HIT4, HOW4, HN4, HB4, HNE4, HL4⟩
    · intro hl
      have hkeys : KeysOf (fun k => (at' k).map fun i => ptr (fr i).blk) ks := by
        obtain ⟨n1, n2, n3⟩ := HKS'.out
        refine ⟨n1, fun x => ?_⟩
        rw [n2 x, hl, ← HKS.out.2 x]
        simp
      have hkn : ks.length ≤ 1048576 := by have := HLEN.out; have := HBN.out; omega
      have HKY := Lib.hid hkeys
      clear hkeys hl
      have hsort := sort_ints _ ks ri _ HOW.out (by omega)
      have HSO := Lib.hid hsort
      clear hsort
      go_frame
      go_wp2_with fail
      refine HSO.out.mono ?_
      rintro e5 w5 ⟨rfl, how5, hg5⟩
      have HOW5 := Lib.hid how5; have HB5 := Lib.hid (HB'.out.grown hg5 (by have := HB'.out.size; have := HRI.out; omega) (fun g hg => (HOW.out.lt g hg).1))
      clear how5 hg5 HSO
      go_wp2_with fail
      go_ret
      rw [← HRI.out]
      exact ⟨_, ks, rfl, HKY.out, HOW5.out, HB5.out⟩

theorem pool_pins (p d most n hand : Nat) (fr : Nat → Fr) (at' : Int → Option Nat) (page : Int) (w : World) (T : Tags) (h : PoolM w T p d most n hand fr at') (hm : 0 < most) (ha : ∀ k i, at' k = some i → i < n) (hp : ∀ i, i < n → (fr i).pins = 0) :
    Calls Try.prog 54 #[ptr p, .int .i64 page] w fun e w' => e = .returned (.int .i64 0) ∧ w = w' := by
  have c1 := h.c1
  obtain ⟨m, c4, hl⟩ := h.look page
  have hg := pool_given p w most c1 hm
  cases hat : at' page with
  | none =>
    rw [hat] at hl
    replace hl : (Instr.lookup 125 (.map (some m)) (.int .i64 page) false).run Try.prog w = .ok (.pointer none) w := hl
    clear h hat
    go_enter Try.func54, Try.ntmps54
    go_wp2_with (go_at_call 85; refine hg.mono ?_; rintro e w' ⟨rfl, rfl⟩)
    go_ret
    exact ⟨rfl, rfl⟩
  | some i =>
    have hi := ha _ _ hat
    have hF := h.frame hi
    have k2 : w.cell? ⟨(fr i).blk, 2, none⟩ = some (.int .i64 0) := by rw [hF.cell 2]; simp [frCells, hp i hi]
    rw [hat] at hl
    replace hl : (Instr.lookup 125 (.map (some m)) (.int .i64 page) false).run Try.prog w = .ok (ptr (fr i).blk) w := hl
    clear h hat hF
    generalize (fr i).blk = b at k2 hl
    go_enter Try.func54, Try.ntmps54
    go_wp2_with (go_at_call 85; refine hg.mono ?_; rintro e w' ⟨rfl, rfl⟩)
    go_ret
    exact ⟨rfl, rfl⟩

theorem PoolM.below {w w' : World} {T : Tags} {p d most n hand : Nat} {fr : Nat → Fr} {at' : Int → Option Nat} (h : PoolM w T p d most n hand fr at') (hf : Fresh w T) (hb : Below w.heap.size w w') : PoolM w' T p d most n hand fr at' :=
  h.kept ((Step.refl (C := fun _ => false) hf).below hb) (fun _ _ => rfl)

set_option maxRecDepth 100000 in
set_option maxHeartbeats 800000 in
theorem space_pinned (s p d N : Nat) (base : Nat → Bs) (f : Nat → Bs) (w : World) (T : Tags) (hf : Fresh w T) (c1 : w.cell? ⟨s, 1, none⟩ = some (ptr p)) (h : PoolR w T p d base f N) :
    Calls Try.prog 23 #[ptr s] w fun e w' => e = .returned (.int .i64 0) ∧ Below w.heap.size w w' := by
  obtain ⟨n, most, hand, fr, at', nr, hM, hD, hL⟩ := h
  have hgv := space_given s p w c1
  have hld := pool_held p d most n hand fr at' w T hM hL.hm0 (fun k i hk => by
    obtain ⟨h1, h2, h3⟩ := (hL.at_iff k i).1 hk
    have := hL.page i h1 (by simp)
    omega)
  have hsl := World.block_lt_of_cell? w _ c1
  have hpi : ∀ i, i < n → (fr i).pins = 0 := fun i hi => by rw [hL.pins i hi]; rfl
  have hai : ∀ k i, at' k = some i → i < n := fun k i hk => ((hL.at_iff k i).1 hk).1
  have HLD := Lib.hid hld; have HM := Lib.hid hM; have HPI := Lib.hid hpi; have HAI := Lib.hid hai
  have hb4 : ∀ ks, KeysOf (fun k => (at' k).map fun i => ptr (fr i).blk) ks → ks.length ≤ 4096 := by
    intro ks hk
    refine nodup_le hk.1 4096 (fun k hm => ?_)
    obtain ⟨v, hv⟩ := Option.isSome_iff_exists.1 ((hk.2 k).1 hm)
    obtain ⟨i, hi, _⟩ := Option.map_eq_some_iff.1 hv
    obtain ⟨h1, h2, h3⟩ := (hL.at_iff k i).1 hi
    have := hL.page i h1 (by simp)
    omega
  have HB4 := Lib.hid hb4
  have hm0 : 0 < most := hL.hm0
  clear hld hM hD hL hpi hai hb4
  go_enter Try.func23, Try.ntmps23
  go_wp2_with (go_at_call 41; refine hgv.mono ?_; rintro e w' ⟨rfl, rfl⟩)
  refine HLD.out.mono ?_
  rintro e1 w1 ⟨v, ks, rfl, hks, how, hbl⟩
  obtain ⟨ao, cap, hva⟩ : ∃ ao cap, v = .slice ao ks.length cap := by
    rcases how.2 with ⟨e, e2⟩ | ⟨g, cap, cur, e, _⟩
    · exact ⟨none, 0, by rw [e, e2]⟩
    · exact ⟨_, _, e⟩
  subst hva
  have hk4 := HB4.out ks hks
  have hrow : ∀ i, i < ks.length → ∃ g x, ao = some ⟨g, 0, none⟩ ∧ w1.cell? ⟨g, i, none⟩ = some (.int .i64 x) ∧ g < w1.heap.size := by
    intro i hi
    rcases how.2 with ⟨e, e2⟩ | ⟨g, cap', cur, e, _, hg, _, _, _, ht⟩
    · omega
    · injection e with e1 e2 e3
      have hsl : (sorted ks).length = ks.length := sorted_length ks
      refine ⟨g, (sorted ks)[i]'(by omega), e1, ?_, lt_of_at hg⟩
      have : ((sorted ks).map (Value.int .i64))[i]? = some (Value.int .i64 ((sorted ks)[i]'(by omega))) := by rw [List.getElem?_map, List.getElem?_eq_getElem (by omega : i < (sorted ks).length)]; rfl
      rw [← ht, List.getElem?_take, if_pos (by omega)] at this
      rw [cell_at hg]; simpa using this
  have HROW := Lib.hid hrow; have HBL := Lib.hid hbl; have HM1 := Lib.hid (HM.out.below hf hbl)
  have c1' : w1.cell? ⟨s, 1, none⟩ = some (ptr p) := by
    have e := hbl.block s hsl
    simp only [World.cell?, e] at c1 ⊢
    exact c1
  clear hrow hbl how hks HLD c1 hgv
  go_wp2_with fail
  obtain ⟨w0, hw0⟩ : ∃ w0 : World, w0 = w1 := ⟨_, rfl⟩
  go_loop [3, 5, 14] (fun u3 _ u14 => ∃ i : Nat, u3 = .int .i64 0 ∧ u14 = .int .i64 i ∧ i ≤ ks.length) (fun _ _ u14 => ks.length - (intOf u14).toNat)
  case atStart => exact ⟨0, rfl, rfl, Nat.zero_le _⟩
  case round =>
    obtain ⟨i, rfl, rfl, hi⟩ := hrel
    clear hw0
    by_cases hin : i < ks.length
    · obtain ⟨g, x, rfl, hcx, _⟩ := HROW.out i hin
      have hps := pool_pins p d most n hand fr at' x w1 T HM1.out hm0 HAI.out HPI.out
      have hii : (i : Int) < ks.length := by omega
      go_wp2_with (go_at_call 54; refine hps.mono ?_; rintro e w' ⟨rfl, rfl⟩)
      go_round
      case rel => exact ⟨i + 1, rfl, by go_num, by omega⟩
      case measure => simp [intOf]; omega
    · obtain rfl : i = ks.length := by omega
      go_wp2_with fail
      go_ret
      exact ⟨rfl, HBL.out⟩
end Go.Proofs.Ytiolpfneppchnaa
