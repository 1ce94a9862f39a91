/- The pool (layer 4): Read. -/
import Derived.Test.YtiolpfneppchnaaVsPool9
namespace Go.Proofs.Ytiolpfneppchnaa
open Go Go.RowKit Go.Vs

set_option maxRecDepth 100000 in
theorem pool_read (p d page : Nat) (base : Nat → Bs) (w : World) (T : Tags) (f : Nat → Bs) (N : Nat) (h : PoolP w T p d base f N page) :
    Calls Try.prog 79 #[ptr p, .int .i64 page] w fun e w' => e = .returned (.tuple #[str (base page), .int .i64 0]) ∧ w = w' ∧ (base page).length = 512 := by
  obtain ⟨n, most, hand, fr, at', nr, i, hM, hD, hL, ha⟩ := h
  obtain ⟨hi, _, hpp⟩ := (hL.at_iff _ _).1 ha
  have hF := hM.frame hi
  have hpin : (fr i).pins = 1 := by rw [hL.pins i hi]; simp
  have hpd := pool_pinned p d most n hand fr at' page w T hM (fun k j hk => ((hL.at_iff k j).1 hk).1)
  rw [ha] at hpd
  simp only [hpin] at hpd
  have c1 := hM.c1
  have hm0 : 0 < most := hL.hm0
  have hpe : (fr i).page = page := by omega
  have hbs : base page = (fr i).bytes := by rw [← hpe]; exact hL.bas i hi (by simp)
  have hlen : (base page).length = 512 := by rw [hbs]; exact hL.len i hi (by simp)
  obtain ⟨ao, cap, hbv, hc1, hc2, hsl⟩ := hF.2.2.slb
  have k1 : w.cell? ⟨(fr i).blk, 1, none⟩ = some (.slice ao (fr i).bytes.length cap) := by rw [← hbv]; exact hF.cell 1
  have hconv := run_string_of (P := Try.prog) w 69 9 5 _ _ und_bytes und_u8 und_string hsl.reads
  rw [← hbs] at k1 hconv
  rw [hlen] at k1 hconv
  obtain ⟨b, hb⟩ : ∃ b, b = (fr i).blk := ⟨_, rfl⟩
  have hpd' : Calls Try.prog 95 #[ptr p, .int .i64 page] w fun e w' => w = w' ∧ e = .returned (ptr b) := by rw [hb]; exact hpd
  rw [← hb] at k1
  obtain ⟨sv, hsv⟩ : ∃ sv : ByteArray, str (base page) = .string sv := ⟨_, rfl⟩
  rw [hsv] at hconv ⊢
  have HLN := Lib.hid hlen
  clear hM hD hL hb hF ha hpd hpin hbs hlen hsv hpe hpp hsl hbv
  go_enter Try.func79, Try.ntmps79
  go_wp2_with (first | (go_at_call 85; refine (pool_given p w most c1 hm0).mono ?_; rintro e w' ⟨rfl, rfl⟩) | (go_at_call 95; refine hpd'.mono ?_; rintro e w' ⟨rfl, rfl⟩))
  go_ret2
  exact ⟨rfl, rfl, HLN.out⟩

end Go.Proofs.Ytiolpfneppchnaa
