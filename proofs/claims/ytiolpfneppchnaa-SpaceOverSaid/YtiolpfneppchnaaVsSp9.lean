/- The space (layer 5): Begin. -/
import Derived.Test.YtiolpfneppchnaaVsSp8
import Derived.Deep.LoopGhost
namespace Go.Proofs.Ytiolpfneppchnaa
open Go Go.RowKit Go.Vs

theorem hold_range {P : Program} {ops : Array Oper} {rest : List Oper} {o : Oper} {a : Act} {Q : Exit → Act → World → Prop} {w : World} (t : TypeId) (x : Operand) (_ho : o.op = .range t x) (h : Hold (wpList P ops Q (o :: rest) a w)) : wpList P ops Q (o :: rest) a w := h
theorem hold_next {P : Program} {ops : Array Oper} {rest : List Oper} {o : Oper} {a : Act} {Q : Exit → Act → World → Prop} {w : World} (x : Operand) (_ho : o.op = .next x false) (h : Hold (wpList P ops Q (o :: rest) a w)) : wpList P ops Q (o :: rest) a w := h

theorem space_given (s p : Nat) (w : World) (c1 : w.cell? ⟨s, 1, none⟩ = some (ptr p)) :
    Calls Try.prog 41 #[ptr s] w fun e w' => e = .returned (.bool true) ∧ w = w' := by
  go_enter Try.func41, Try.ntmps41
  go_wp2
  go_ret
  exact ⟨rfl, rfl⟩

/-- what an action that has begun sees. -/
def viewOf (cur : Nat → Bs) (fl : List Nat) : View where
  pages := fun q => if 1 ≤ q ∧ q ≤ tot cur ∧ q ∉ fl then some (cur q) else none
  roots := rootOf cur
  total := tot cur

theorem sees_viewOf (cur : Nat → Bs) (fl : List Nat) : Sees cur fl (viewOf cur fl) := ⟨rfl, fun _ => rfl, fun _ _ => rfl⟩

def isBegin : Tag → Bool
  | .space | .act | .apages | .free => true
  | _ => false

theorem _root_.Go.Vs.IIter.nodup {w : World} {r b : Nat} {f : Int → Option Value} {left : List Int} (h : IIter w r b f left) : left.Nodup := by
  obtain ⟨es, clock, since, seen, c0, h1, h2, h3, h4, h5, h6, h7, h8, h9⟩ := h; exact h8

set_option maxRecDepth 100000 in
set_option maxHeartbeats 800000 in
theorem space_begin (s d N : Nat) (K : Kept) (fl : List Nat) (w : World) (T : Tags) (hf : Fresh w T) (h : SpR w T s d K fl N) :
    Calls Try.prog 10 #[ptr s] w fun e w' => ∃ E : AEnv, e = .returned (.tuple #[ptr E.a, .int .i64 0]) ∧ (E.s = s ∧ E.d = d ∧ E.K = K ∧ E.N = N ∧ GoneIs E.free fl) ∧ w.heap.size ≤ E.a ∧ (∀ k, k < w.heap.size → k ≠ s → w'.heap[k]? = w.heap[k]?) ∧ ∃ T', ActV E w' T' (viewOf K.base fl) ∧ Step isBegin w T w' T' := by
  obtain ⟨l, p, m, f, free, hI, hM, hG⟩ := h
  have hgv := space_given s p w hI.sp.c1
  have c2 := hI.sp.c2
  have c3 := hI.sp.c3
  have hls := lt_of_at hI.sp.2
  have hlm := hI.fr.2.lt
  have hmm := @run_makeMap Try.prog
  have ca : ∀ o1 o2 o3 : Obj, (((w.alloc o1).alloc o2).alloc o3).cell? ⟨s, 3, none⟩ = some (.map (some m)) := by
    intro o1 o2 o3
    have e : (((w.alloc o1).alloc o2).alloc o3).heap[s]? = w.heap[s]? := by
      rw [alloc_old (by simp; omega), alloc_old (by simp; omega), alloc_old hls]
    simp only [World.cell?, e] at c3 ⊢
    exact c3
  have HI := Lib.hid hI; have HM := Lib.hid hM; have HG := Lib.hid hG
  clear hI hM hG
  go_enter Try.func10, Try.ntmps10
  go_wp2_with (first | (go_at_call 41; refine hgv.mono ?_; rintro e w' ⟨rfl, rfl⟩) | (with_reducible refine hold_range _ _ rfl ?_))
  unfold Hold
  obtain ⟨b, hb⟩ : ∃ b, b = w.heap.size := ⟨_, rfl⟩
  obtain ⟨w1, hw1⟩ : ∃ w1, w1 = ((w.alloc (.map #[] 0)).alloc (.map #[] 0)).alloc (.cells #[ptr s, .map (some w.heap.size), .map (some (w.heap.size + 1)), .bool false] 47) := ⟨_, rfl⟩
  rw [← hw1]
  have z0 : (w.alloc (.map #[] 0)).heap.size = b + 1 := by rw [hb]; exact alloc_size
  have z1 : ((w.alloc (.map #[] 0)).alloc (.map #[] 0)).heap.size = b + 2 := by rw [alloc_size, z0]
  have z2 : w1.heap.size = b + 3 := by rw [hw1, alloc_size, z1]
  obtain ⟨T1, hT1⟩ : ∃ T1, T1 = ((T.put b .apages).put (b + 1) .free).put (b + 2) .act := ⟨_, rfl⟩
  have s1 : Step isBegin w T w1 T1 := by
    have x1 : Step isBegin w T (w.alloc (.map #[] 0)) (T.put b .apages) := by rw [hb]; exact (Step.refl hf).allocTag _ rfl
    have x2 := x1.allocTag (.map #[] 0) (t := .free) rfl
    rw [z0] at x2
    have x3 := x2.allocTag (.cells #[ptr s, .map (some w.heap.size), .map (some (w.heap.size + 1)), .bool false] 47) (t := .act) rfl
    rw [z1, ← hw1, ← hT1] at x3
    exact x3
  have t0 : T1 b = .apages := by rw [hT1, Tags.put_other _ _ (by omega), Tags.put_other _ _ (by omega)]; exact Tags.put_same _ _ _
  have t1 : T1 (b + 1) = .free := by rw [hT1, Tags.put_other _ _ (by omega)]; exact Tags.put_same _ _ _
  have t2 : T1 (b + 2) = .act := by rw [hT1]; exact Tags.put_same _ _ _
  have o1 : ∀ k, k < b → w1.heap[k]? = w.heap[k]? := by
    intro k hk
    rw [hw1, alloc_old (by rw [z1]; omega), alloc_old (by rw [z0]; omega), alloc_old (by omega)]
  have m0 : IMap w1 b (pagesV fun _ => none) := by
    have h := IMap.new w
    rw [← hb] at h
    exact h.kept (by rw [hw1, alloc_old (by rw [z1]; omega), alloc_old (by rw [z0]; omega)])
  have m1 : IMap w1 (b + 1) (setV fun _ => false) := by
    have h := IMap.new (w.alloc (.map #[] 0))
    rw [z0] at h
    exact h.kept (by rw [hw1, alloc_old (by rw [z1]; omega)])
  have m2 : w1.heap[b + 2]? = some (.cells #[ptr s, .map (some b), .map (some (b + 1)), .bool false] 47 (0, 0)) := by
    have h := alloc_new (w := (w.alloc (.map #[] 0)).alloc (.map #[] 0)) (o := .cells #[ptr s, .map (some w.heap.size), .map (some (w.heap.size + 1)), .bool false] 47)
    rw [z1, ← hw1, ← hb] at h
    exact h
  have hm3 : IMap w1 m (setV free) := HI.out.fr.2.kept (o1 m (by omega))
  rw [← hb]
  have HO1 := Lib.hid o1; have HS1 := Lib.hid s1; have M0 := Lib.hid m0; have M1 := Lib.hid m1; have M2 := Lib.hid m2
  have hsb : s < b := by omega
  have hmb : m < b := by omega
  have hbw : Hid (b = w.heap.size) := Lib.hid hb
  clear z0 z1 hw1 hT1 o1 s1 m0 m1 m2 ca c2 c3 hmm hgv hb hls hlm
  refine wpList_range_map rfl _ _ rfl _ _ und_bmap m _ rfl hm3 ?_
  intro w2 left hit hks hbl hz
  rw [z2] at hit hbl hz ⊢
  have s2 : Step (fun _ => false) w1 T1 w2 T1 := (Step.refl HS1.out.fresh).below (by rw [← z2] at hbl; exact hbl)
  have hof : ∀ k, (setV free k) = some (.bool true) ↔ k ∈ left := by
    intro k
    rw [hks.2 k]
    unfold setV
    cases free k <;> simp
  have HIT := Lib.hid hit; have HS2 := Lib.hid s2; have HOF := Lib.hid hof
  have M0' := Lib.hid (M0.out.keptStep t0 s2 rfl); have M1' := Lib.hid (M1.out.keptStep t1 s2 rfl); have M2' := Lib.hid (s2.at M2.out rfl)
  have HBL := Lib.hid hbl
  clear hit hks hbl s2 hm3 M0 M1 M2 hof
  go_frame
  go_wp2_with fail
  go_loopg [5] left.length (fun k _ wr => ∃ left', left'.length = k ∧ Hid (∀ x, x ∈ left' → x ∈ left) ∧ Hid (IIter wr (b + 3) m (setV free) left') ∧ Hid (IMap wr (b + 1) (setV fun x => decide (x ∈ left) && !decide (x ∈ left'))) ∧ Hid (∀ j, j ≠ b + 1 → j ≠ b + 3 → wr.heap[j]? = w2.heap[j]?) ∧ Hid (wr.heap.size = b + 3 + 1 ∧ wr.os = w2.os ∧ wr.tape = w2.tape ∧ wr.output = w2.output))
  case atStart =>
    refine ⟨left, rfl, Lib.hid fun _ h => h, HIT, Lib.hid ?_, Lib.hid fun _ _ _ => rfl, Lib.hid ⟨hz, rfl, rfl, rfl⟩⟩
    have e : (setV fun x => decide (x ∈ left) && !decide (x ∈ left)) = setV fun _ => false := by
      funext x; unfold setV; by_cases h : x ∈ left <;> simp [h]
    rw [e]; exact M1'.out
  case round =>
    obtain ⟨left', hk, HSub, HI', HM', HO', HW'⟩ := hrel
    go_wp2_with (with_reducible refine hold_next _ rfl ?_)
    unfold Hold
    refine wpList_next_map rfl _ rfl m (b + 3) _ left' rfl HI'.out ?_ ?_
    · intro hl
      have HL := Lib.hid hl
      clear hl
      have hO := HO'.out
      have hW := HW'.out
      have ew : ∀ k, k < b → wr.heap[k]? = w.heap[k]? := fun k hk => by
        rw [hO k (by omega) (by omega), HBL.out.block k (by omega), HO1.out k hk]
      have hsp := HI.out.sp
      have ks : wr.heap[s]? = some (.cells #[ptr l, ptr p, .pointer none, .map (some m)] 57 (0, 0)) := (ew s hsb).trans hsp.2
      have c2 : wr.cell? ⟨s, 2, none⟩ = some (.pointer none) := by rw [cell_at ks]; rfl
      have z2' : wr.frozen? ⟨s, 2, none⟩ = false := froz_at ks
      have hTs : T1 s = .space := HS1.out.tag hsp.2 hsp.1
      have s13 : Step (fun t => t == .free) w1 T1 wr T1 := {
        os := hW.2.1.trans HBL.out.os
        tape := hW.2.2.1.trans HBL.out.tape
        output := hW.2.2.2.trans HBL.out.output
        size := by rw [z2, hW.1]; omega
        old := fun _ _ => rfl
        same := fun k hk hc => by
          rw [z2] at hk
          have : k ≠ b + 1 := by intro e; rw [e, t1] at hc; cases hc
          rw [hO k this (by omega), HBL.out.block k hk]
        new := fun k hk => .inr (HS1.out.fresh k hk)
        fresh := fun k hk => HS1.out.fresh k (by rw [hW.1] at hk; rw [z2]; omega) }
      have s4 : Step (fun t => t == .space) wr T1 (wr.setCell ⟨s, 2, none⟩ (ptr (b + 2))) T1 := (Step.refl s13.fresh).setCell (by rw [hTs]; rfl)
      have hne : ∀ k, k < b → k ≠ s → (wr.setCell ⟨s, 2, none⟩ (ptr (b + 2))).heap[k]? = w.heap[k]? := fun k hk hks => (set_other (fun e => hks e.symm)).trans (ew k hk)
      have hfr : FreeM (wr.setCell ⟨s, 2, none⟩ (ptr (b + 2))) T1 m free := by
        have h := HI.out.fr
        have hms : m ≠ s := ne_of_tag h.1 hsp.1 (by simp)
        exact ⟨HS1.out.tagOf h.2.lt h.1, h.2.kept (hne m hmb hms)⟩
      have hlg := ((HI.out.lg.kept HS1.out rfl).kept s13 rfl).kept s4 rfl
      have hpl := ((HI.out.pl.kept HS1.out (fun t ht => by cases t <;> first | rfl | cases ht)).kept s13 (fun t ht => by cases t <;> first | rfl | cases ht)).kept s4 (fun t ht => by cases t <;> first | rfl | cases ht)
      have hac : ActM (wr.setCell ⟨s, 2, none⟩ (ptr (b + 2))) T1 (b + 2) s b (b + 1) false := ⟨t2, by rw [set_other (by omega), hO (b + 2) (by omega) (by omega)]; exact M2'.out⟩
      have hpm : PagesM (wr.setCell ⟨s, 2, none⟩ (ptr (b + 2))) T1 b K.base K.base (fun _ => none) := ⟨t0, (M0'.out.kept (hO b (by omega) (by omega))).keptStep t0 s4 rfl, fun k x hk => (by cases hk), fun _ _ _ => rfl, (HM.out).len⟩
      have hgm : FreeM (wr.setCell ⟨s, 2, none⟩ (ptr (b + 2))) T1 (b + 1) (fun x => decide (x ∈ left) && !decide (x ∈ left')) := ⟨t1, HM'.out.keptStep t1 s4 rfl⟩
      have hA : ActI (wr.setCell ⟨s, 2, none⟩ (ptr (b + 2))) T1 (b + 2) s l p d m b (b + 1) f K free N K.base (fun x => decide (x ∈ left) && !decide (x ∈ left')) (fun _ => none) := ⟨⟨⟨hTs, set_same ks⟩, hfr, hlg, hpl, HI.out.jj⟩, hac, hpm, hgm, by omega⟩
      have hgn : GoneIs (fun x => decide (x ∈ left) && !decide (x ∈ left')) fl := by
        intro k
        rw [HL.out, ← HG.out k]
        have := HOF.out k
        unfold setV at this
        cases hfk : free k <;> simp [hfk] at this ⊢ <;> simpa using this
      have HA := Lib.hid hA; have HGN := Lib.hid hgn; have HNE := Lib.hid hne; have HST := Lib.hid ((HS1.out.trans (s13.mono (D := isBegin) (fun t ht => by rw [beq_iff_eq] at ht; rw [ht]; rfl))).trans (s4.mono (fun t ht => by rw [beq_iff_eq] at ht; rw [ht]; rfl)))
      clear hA hgn hne s13 s4 hfr hlg hpl hac hpm hgm ew hO hW hsp ks
      go_frame
      go_wp2_with fail
      go_ret2
      refine ⟨⟨b + 2, s, l, p, d, m, b, b + 1, K, free, N⟩, rfl, ⟨rfl, rfl, rfl, rfl, HG.out⟩, by have := hbw.out; show _ ≤ b + 2; omega, fun k hk => HNE.out k (by have := hbw.out; omega), T1, ⟨K.base, fl, _, _, ⟨f, HA.out⟩, HM.out, HGN.out, fun q hq => absurd rfl hq, sees_viewOf _ _⟩, HST.out⟩
    · intro kx v w3 hmem hfx hit3 ho3 hz3 hos3 htp3 hou3 hen
      have hO := HO'.out
      have hW := HW'.out
      have ks : w3.heap[b + 2]? = _ := (ho3 (b + 2) (by omega)).trans ((hO (b + 2) (by omega) (by omega)).trans M2'.out)
      have c2 : w3.cell? ⟨b + 2, 2, none⟩ = some (.map (some (b + 1))) := by rw [cell_at ks]; rfl
      obtain ⟨o, hup, hmp⟩ := run_update (P := Try.prog) 45 3 4 und_bmap und_int (HM'.out.kept (ho3 (b + 1) (by omega))) kx (.bool true)
      have hnd := HI'.out.nodup
      have e : mupd (setV fun x => decide (x ∈ left) && !decide (x ∈ left')) kx (some (.bool true)) = setV fun x => decide (x ∈ left) && !decide (x ∈ left'.erase kx) := by
        funext x
        by_cases e : x = kx
        · subst e
          have h1 := HSub.out x hmem
          have h2 : x ∉ left'.erase x := fun hh => (hnd.mem_erase_iff.1 hh).1 rfl
          simp [mupd_same, setV, h1, h2]
        · rw [mupd_other _ _ e]
          have : x ∈ left'.erase kx ↔ x ∈ left' := by rw [hnd.mem_erase_iff]; simp [e]
          simp [setV, this]
      rw [e] at hmp
      have HMP := Lib.hid hmp
      have hbm : ¬ b + 1 = b + 3 := by omega
      have HIT3 := Lib.hid (hit3.kept (w' := putObj w3 (b + 1) o) (put_other (by omega)) (put_other (by omega)))
      have HOO : Hid (∀ j, j ≠ b + 1 → j ≠ b + 3 → (putObj w3 (b + 1) o).heap[j]? = w2.heap[j]?) := Lib.hid (fun j h1 h2 => (put_other (fun e => h1 e.symm)).trans ((ho3 j h2).trans (hO j h1 h2)))
      have HWW : Hid ((putObj w3 (b + 1) o).heap.size = b + 3 + 1 ∧ (putObj w3 (b + 1) o).os = w2.os ∧ (putObj w3 (b + 1) o).tape = w2.tape ∧ (putObj w3 (b + 1) o).output = w2.output) := Lib.hid ⟨by rw [put_size, hz3]; exact hW.1, hos3.trans hW.2.1, htp3.trans hW.2.2.1, hou3.trans hW.2.2.2⟩
      have HLN : Hid ((left'.erase kx).length < gk) := Lib.hid (by rw [List.length_erase_of_mem hmem, ← hk]; have := List.length_pos_of_mem hmem; omega)
      have HS' : Hid (∀ x, x ∈ left'.erase kx → x ∈ left) := Lib.hid (fun x hx => HSub.out x (List.mem_of_mem_erase hx))
      clear hit3 ho3 hz3 hos3 htp3 hou3 hmp e hnd hO hW ks hbm hmem hfx hk
      go_frame
      go_wp2_with fail
      go_roundg (left'.erase kx).length
      case measure => exact HLN.out
      case rel => exact ⟨_, rfl, HS', HIT3, HMP, HOO, HWW⟩
end Go.Proofs.Ytiolpfneppchnaa
