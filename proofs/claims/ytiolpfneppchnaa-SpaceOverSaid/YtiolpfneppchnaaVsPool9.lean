/- The pool (layer 4): Pin, Unpin. -/
import Derived.Test.YtiolpfneppchnaaVsPool8
namespace Go.Proofs.Ytiolpfneppchnaa
open Go Go.RowKit Go.Vs

theorem pool_pin (p d page : Nat) (base : Nat → Bs) (w : World) (T : Tags) (f : Nat → Bs) (N : Nat) (hf : Fresh w T) (h : PoolR w T p d base f N) (hp : page < 4096) (hN : N < 1099511627770) :
    Calls Try.prog 76 #[ptr p, .int .i64 page] w fun e w' => e = .returned (.int .i64 0) ∧ ∃ T' f', PoolP w' T' p d base f' N page ∧ Wrote f f' base ∧ Step isPool w T w' T' := by
  obtain ⟨n, most, hand, fr, at', nr, hM, hD, hL⟩ := h
  cases ha : at' page with
  | none => exact pool_pin_miss p d most n hand page fr at' base w T f N nr hf hM hD hL ha hp hN
  | some i =>
    refine (pool_pin_hit p d most n hand i page fr at' base w T f N nr hf hM hD hL ha hp).mono ?_
    rintro e w' ⟨rfl, h1, h2⟩
    exact ⟨rfl, T, f, h1, Wrote.refl _ _, h2⟩

set_option maxRecDepth 100000 in
theorem pool_unpin (p d page : Nat) (base : Nat → Bs) (w : World) (T : Tags) (f : Nat → Bs) (N : Nat) (hf : Fresh w T) (h : PoolP w T p d base f N page) :
    Calls Try.prog 78 #[ptr p, .int .i64 page] w fun e w' => e = .returned (.int .i64 0) ∧ PoolR w' T p d base f N ∧ Step isPool w T w' T := by
  obtain ⟨n, most, hand, fr, at', nr, i, hM, hD, hL, ha⟩ := h
  obtain ⟨hi, _, _⟩ := (hL.at_iff _ _).1 ha
  have hF := hM.frame hi
  have hpin : (fr i).pins = 1 := by rw [hL.pins i hi]; simp
  have hpd := pool_pinned p d most n hand fr at' page w T hM (fun k j hk => ((hL.at_iff k j).1 hk).1)
  rw [ha] at hpd
  simp only [hpin] at hpd
  have c1 := hM.c1
  have hm0 : 0 < most := hL.hm0
  have k2 : w.cell? ⟨(fr i).blk, 2, none⟩ = some (.int .i64 1) := by rw [hF.cell 2]; simp [frCells, hpin]
  have z2 : w.frozen? ⟨(fr i).blk, 2, none⟩ = false := hF.froz 2
  obtain ⟨b, hb⟩ : ∃ b, b = (fr i).blk := ⟨_, rfl⟩
  have hpd' : Calls Try.prog 95 #[ptr p, .int .i64 page] w fun e w' => w = w' ∧ e = .returned (ptr b) := by rw [hb]; exact hpd
  rw [← hb] at k2 z2
  have HM := Lib.hid hM; have HD := Lib.hid hD; have HL := Lib.hid hL; have HB := Lib.hid hb; have HF := Lib.hid hF
  clear hM hD hL hb hF ha hpd hpin
  go_enter Try.func78, Try.ntmps78
  go_wp2_with (first | (go_at_call 85; refine (pool_given p w most c1 hm0).mono ?_; rintro e w' ⟨rfl, rfl⟩) | (go_at_call 95; refine hpd'.mono ?_; rintro e w' ⟨rfl, rfl⟩))
  go_ret
  have M1 := HM.out.setFr hf hi 2 (.int .i64 0) { fr i with pins := 0 } rfl rfl rfl rfl
  have s1 : Step (fun t => t == .frame i) w T (w.setCell ⟨b, 2, none⟩ (.int .i64 0)) T := (Step.refl hf).setCell (by rw [HB.out, HF.out.1]; simp)
  rw [← HB.out] at M1
  refine ⟨rfl, ⟨n, most, hand, _, at', nr, M1, HD.out.kept s1 (fun t ht => by cases t <;> first | rfl | cases ht), ?_⟩, s1.mono (fun t ht => by rw [beq_iff_eq] at ht; rw [ht]; rfl)⟩
  refine HL.out.pin i _ rfl rfl rfl (fun j hj => ?_)
  by_cases e : j = i
  · subst e; rw [upd_same]; simp
  · rw [upd_other _ _ e, HL.out.pins j hj]; simp [e]

end Go.Proofs.Ytiolpfneppchnaa
