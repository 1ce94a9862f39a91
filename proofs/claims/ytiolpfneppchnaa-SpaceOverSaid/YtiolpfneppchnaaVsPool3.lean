/- The pool (layer 4): write. -/
import Derived.Test.YtiolpfneppchnaaVsPool2
import Derived.StillTailTactics
namespace Go.Proofs.Ytiolpfneppchnaa
open Go Go.RowKit Go.Vs

theorem _root_.Go.Vs.RowT.slb {w : World} {T : Tags} {t : Tag} {v : Value} {bs : Bs} (h : RowT w T t 5 1 v bs.length (cells bs)) : ∃ ao cap, v = .slice ao bs.length cap ∧ bs.length ≤ cap ∧ cap ≤ maxLen ∧ SlB w (.slice ao bs.length cap) bs := by
  rcases h.cases with ⟨h1, h2, _⟩ | ⟨g, cap, cur, hval, _, hg, hc, hm, hcs, ht⟩
  · refine ⟨none, 0, by rw [h1, h2], by omega, by simp, ⟨none, 0, rfl, by omega, by simp, .inl ⟨rfl, rfl, List.eq_nil_of_length_eq_zero h2⟩⟩⟩
  · exact ⟨some ⟨g, 0, none⟩, cap, hval, hc, hm, BlkB.slb (E := 5) ⟨cur, (0, 0), hg, .inl rfl, by simpa using hcs, hc, hm, by simpa using ht⟩⟩

theorem pool_write_clean (p d most n hand : Nat) (fr : Nat → Fr) (at' : Int → Option Nat) (w : World) (T : Tags) (h : PoolM w T p d most n hand fr at') {i : Nat} (hi : i < n) (hc : (fr i).changed = false) :
    Calls Try.prog 107 #[ptr p, ptr (fr i).blk] w fun e w' => e = .returned (.tuple #[]) ∧ w = w' := by
  have hF := h.frame hi
  have k3 : w.cell? ⟨(fr i).blk, 3, none⟩ = some (.bool false) := by rw [hF.cell 3]; simp [frCells, hc]
  clear hF h hc
  generalize (fr i).blk = b at k3 ⊢
  go_enter Try.func107, Try.ntmps107
  go_wp2
  go_end0
  exact ⟨rfl, rfl⟩

set_option maxRecDepth 100000 in
set_option maxHeartbeats 800000 in
theorem pool_write (p d most n hand : Nat) (fr : Nat → Fr) (at' : Int → Option Nat) (w : World) (T : Tags) (f : Nat → Bs) (nr : Nat) (hf : Fresh w T) (h : PoolM w T p d most n hand fr at') (hd : DiskR w T d f nr) {i : Nat} (hi : i < n) (hc : (fr i).changed = true) (hl : (fr i).bytes.length = 512) (hpg : (fr i).page < 4096) (hn : nr < 1099511627770) :
    Calls Try.prog 107 #[ptr p, ptr (fr i).blk] w fun e w' => e = .returned (.tuple #[]) ∧
      ∃ T', PoolM w' T' p d most n hand (upd fr i { fr i with changed := false }) at' ∧ DiskR w' T' d (upd f 1 (wr (f 1) ((fr i).page * 512) (fr i).bytes)) (nr + 1) ∧ Step isPool w T w' T' := by
  have hF := h.frame hi
  obtain ⟨ao, cap, hbv, hc1, hc2, hsl⟩ := hF.2.2.slb
  have k0 : w.cell? ⟨(fr i).blk, 0, none⟩ = some (.int .i64 (fr i).page) := hF.cell 0
  have k1 : w.cell? ⟨(fr i).blk, 1, none⟩ = some (.slice ao (fr i).bytes.length cap) := by rw [← hbv]; exact hF.cell 1
  have k3 : w.cell? ⟨(fr i).blk, 3, none⟩ = some (.bool true) := by rw [hF.cell 3]; simp [frCells, hc]
  have c0 := h.c0
  have hconv := run_string_of (P := Try.prog) w.drew 69 9 5 _ _ und_bytes und_u8 und_string (show Reads w.drew _ _ from hsl.reads)
  have HDK := Lib.hid hd; have HM := Lib.hid h; have HF := Lib.hid hF
  obtain ⟨b, hb⟩ : ∃ b, b = (fr i).blk := ⟨_, rfl⟩
  obtain ⟨bs, hbs⟩ : ∃ bs, bs = (fr i).bytes := ⟨_, rfl⟩
  obtain ⟨pg, hpg'⟩ : ∃ pg, pg = (fr i).page := ⟨_, rfl⟩
  rw [← hb] at k0 k1 k3 ⊢
  rw [← hbs] at k1 hconv hl
  rw [← hpg'] at k0 hpg
  have HB := Lib.hid hb; have HBS := Lib.hid hbs; have HPG := Lib.hid hpg'; have HC := Lib.hid hc
  obtain ⟨sv, hsv⟩ : ∃ sv : ByteArray, str bs = .string sv := ⟨_, rfl⟩
  rw [hsv] at hconv
  have HSV := Lib.hid hsv
  clear hb hbs hpg' hc hsv hd h hF hbv hsl
  rw [hl] at k1 hconv
  have hsz : sv.size = 512 := by
    have h := HSV.out
    unfold str at h
    cases h
    rw [str_size]; exact hl
  have hsd : sv.data.toList = bs := by
    have h := HSV.out
    unfold str at h
    cases h
    exact str_data bs
  have HSD := Lib.hid hsd
  clear hl hsd
  go_enter Try.func107, Try.ntmps107
  go_wp2
  go_still_tail 14, (by kernel_rfl)
  change wpList _ _ _ _ _ (World.drew _)
  generalize hW : w.drew = W
  have hfW : Fresh W T := by rw [← hW]; exact hf
  have HDW : DiskR W T d f nr := by rw [← hW]; exact HDK.out
  have HMW : PoolM W T p d most n hand fr at' := by rw [← hW]; exact HM.out
  have hsW : Step isPool w T W T := by rw [← hW]; exact (Step.refl hf).drew
  go_wp2_with fail
  refine (disk_write' d 1 (by omega) (pg * 512) rfl (by first | omega | (rw [IntKind.wrap_i64]; omega)) sv _ T f nr hfW HDW (by omega) (by omega) (by omega)).mono ?_
  rintro e1 w1 ⟨rfl, T1, hD1, hst1⟩
  have M1 := HMW.kept hst1 (fun t ht => by cases t <;> first | rfl | cases ht)
  have hF1 := M1.frame hi
  have k3 : w1.cell? ⟨b, 3, none⟩ = some (.bool true) := by rw [HB.out, hF1.cell 3]; simp [frCells, HC.out]
  have z3 : w1.frozen? ⟨b, 3, none⟩ = false := by rw [HB.out]; exact hF1.froz 3
  have HM1 := Lib.hid M1; have HD1 := Lib.hid hD1
  clear hW HMW HDW M1 hF1 hD1 hfW
  go_wp2
  go_end0
  have S1 : Step isPool w T w1 T1 := hsW.trans (hst1.mono (fun t ht => by cases t <;> first | rfl | exact ht))
  have hF1 := HM1.out.frame hi
  rw [HB.out]
  refine ⟨rfl, T1, HM1.out.setFr hst1.fresh hi 3 (.bool false) _ rfl rfl rfl rfl, ?_, S1.setCell (by rw [hF1.1]; rfl)⟩
  have a1 : Step (fun t => t == .frame i) w1 T1 (w1.setCell ⟨(fr i).blk, 3, none⟩ (.bool false)) T1 := (Step.refl hst1.fresh).setCell (by rw [hF1.1]; simp)
  rw [← HPG.out, ← HBS.out, ← HSD.out]
  exact HD1.out.kept a1 (fun t ht => by cases t <;> first | rfl | cases ht)

end Go.Proofs.Ytiolpfneppchnaa
