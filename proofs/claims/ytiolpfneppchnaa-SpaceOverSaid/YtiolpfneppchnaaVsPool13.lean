/- The pool (layer 4): New. -/
import Derived.Test.YtiolpfneppchnaaVsPool12
namespace Go.Proofs.Ytiolpfneppchnaa
open Go Go.RowKit Go.Vs

set_option maxRecDepth 100000 in
set_option maxHeartbeats 800000 in
theorem pool_new (d frames : Nat) (w : World) (T : Tags) (f : Nat → Bs) (nr N : Nat) (hf : Fresh w T) (hd : DiskR w T d f nr) (h1 : 1 ≤ frames) (h2 : frames ≤ 1024) (hfl : (f 1).length ≤ 2097152) (hN : nr ≤ N) :
    Calls Try.prog 37 #[ptr d, .int .i64 frames] w fun e w' => ∃ p T', e = .returned (.tuple #[ptr p, .int .i64 0]) ∧ w.heap.size ≤ p ∧ PoolR w' T' p d (pg (f 1)) f N ∧ Step isPool w T w' T' := by
  have hrd := disk_read' (I := 1) (A := 0) (M := 0) d 1 (by omega) 0 0 rfl rfl rfl w T f nr hd (by omega)
  have hmm := @run_makeMap Try.prog
  have hf0 : ¬ (frames : Int) < 1 := by omega
  have hf1 : ¬ (1024 : Int) < frames := by omega
  have HD := Lib.hid hd; have HFL := Lib.hid hfl
  clear hd hfl
  go_enter Try.func37, Try.ntmps37
  go_wp2_with (go_at_call 73; refine hrd.mono ?_; rintro e w' ⟨rfl, rfl⟩)
  go_ret2
  have hs1 : Step isPool w T (w.alloc (.map #[] 0)) (T.put w.heap.size .pmap) := (Step.refl hf).allocTag _ rfl
  have hz : (w.alloc (.map #[] 0)).heap.size = w.heap.size + 1 := alloc_size
  have hs2 := hs1.allocTag (.cells #[ptr d, .int .i64 frames, .slice none 0 0, .int .i64 0, .map (some w.heap.size)] 128) (t := .pool) rfl
  rw [hz] at hs2
  have a1 : Step (fun t => t == .pmap || t == .pool) w T ((w.alloc (.map #[] 0)).alloc (.cells #[ptr d, .int .i64 frames, .slice none 0 0, .int .i64 0, .map (some w.heap.size)] 128)) ((T.put w.heap.size .pmap).put (w.heap.size + 1) .pool) := by
    have b1 : Step (fun t => t == .pmap || t == .pool) w T (w.alloc (.map #[] 0)) (T.put w.heap.size .pmap) := (Step.refl hf).allocTag _ rfl
    have b2 := b1.allocTag (.cells #[ptr d, .int .i64 frames, .slice none 0 0, .int .i64 0, .map (some w.heap.size)] 128) (t := .pool) rfl
    rwa [hz] at b2
  refine ⟨w.heap.size + 1, (T.put w.heap.size .pmap).put (w.heap.size + 1) .pool, rfl, Nat.le_succ _, ⟨0, frames, 0, fun _ => newFr 0, fun _ => none, nr, ⟨w.heap.size, .slice none 0 0, Tags.put_same _ _ _, ?_, ?_, RowT.nil _ _ _ _ _, ?_, fun i hi => absurd hi (Nat.not_lt_zero i)⟩, ?_, ?_⟩, hs2⟩
  · rw [Tags.put_other _ _ (by omega)]; exact Tags.put_same _ _ _
  · have := alloc_new (w := w.alloc (.map #[] 0)) (o := .cells #[ptr d, .int .i64 frames, .slice none 0 0, .int .i64 0, .map (some w.heap.size)] 128)
    rwa [hz] at this
  · exact (IMap.new w).kept (alloc_old (by rw [hz]; omega))
  · exact HD.out.kept a1 (fun t ht => by cases t <;> first | rfl | cases ht)
  · exact { hn := Nat.zero_le _, hm0 := h1, hm1 := h2, hand := .inr ⟨rfl, rfl⟩, at_iff := fun k i => ⟨fun h => (by cases h), fun h => absurd h.1 (Nat.not_lt_zero i)⟩, page := fun i hi => absurd hi (Nat.not_lt_zero i), len := fun i hi => absurd hi (Nat.not_lt_zero i), bas := fun i hi => absurd hi (Nat.not_lt_zero i), clean := fun i hi => absurd hi (Nat.not_lt_zero i), free := fun i hi => (by cases hi), out := fun _ _ _ => rfl, pins := fun i hi => absurd hi (Nat.not_lt_zero i), flen := HFL.out, cnt := by simpa [chg] using hN }
end Go.Proofs.Ytiolpfneppchnaa
