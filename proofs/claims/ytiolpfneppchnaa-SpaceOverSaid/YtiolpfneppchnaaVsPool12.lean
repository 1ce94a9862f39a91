/- The pool (layer 4): Write of a whole page. -/
import Derived.Test.YtiolpfneppchnaaVsPool11
namespace Go.Proofs.Ytiolpfneppchnaa
open Go Go.RowKit Go.Vs

set_option maxRecDepth 100000 in
set_option maxHeartbeats 800000 in
theorem pool_write_page (p d page : Nat) (s : ByteArray) (base : Nat → Bs) (w : World) (T : Tags) (f : Nat → Bs) (N : Nat) (hf : Fresh w T) (h : PoolP w T p d base f N page) (hs : s.size = 512) :
    Calls Try.prog 77 #[ptr p, .int .i64 page, .int .i64 0, .string s] w fun e w' => e = .returned (.int .i64 0) ∧ PoolP w' T p d (upd base page s.data.toList) f (N + 1) page ∧ Step isPool w T w' T := by
  obtain ⟨n, most, hand, fr, at', nr, i, hM, hD, hL, ha⟩ := h
  obtain ⟨hi, _, hpp⟩ := (hL.at_iff _ _).1 ha
  have hF := hM.frame hi
  have hpin : (fr i).pins = 1 := by rw [hL.pins i hi]; simp
  have hpd := pool_pinned p d most n hand fr at' page w T hM (fun k j hk => ((hL.at_iff k j).1 hk).1)
  rw [ha] at hpd
  simp only [hpin] at hpd
  have c1 := hM.c1
  have hm0 : 0 < most := hL.hm0
  have hlen := hL.len i hi (by simp)
  have hR := hF.2.2
  rw [hlen] at hR
  rcases hR.cases with ⟨_, h2, _⟩ | ⟨g, cap, cur, hbv, hTg, hg, hc1, hc2, hcs, htk⟩
  · omega
  have k1 : w.cell? ⟨(fr i).blk, 1, none⟩ = some (.slice (some ⟨g, 0, none⟩) 512 cap) := by rw [← hbv]; exact hF.cell 1
  have k3 : w.cell? ⟨(fr i).blk, 3, none⟩ = some (.bool (fr i).changed) := hF.cell 3
  have z3 : w.frozen? ⟨(fr i).blk, 3, none⟩ = false := hF.froz 3
  have hcp := run_copy_str (P := Try.prog) w 69 9 3 5 g 0 512 cap s cur 5 (0, 0) und_bytes size_u8 hg (.inl rfl) (by omega) (by omega)
  obtain ⟨W, hW⟩ : ∃ W, W = w.setRow g (lay cur.toList 0 (cells s.data.toList)).toArray := ⟨_, rfl⟩
  rw [← hW] at hcp
  have hls : s.data.toList.length = 512 := hs
  have sW : Step (fun t => t == .frame i || t == .fbytes i) w T W T := by
    rw [hW]; exact (Step.refl hf).setRow (by rw [hTg]; simp)
  have gW : W.heap[g]? = some (.cells (lay cur.toList 0 (cells s.data.toList)).toArray 5 (0, 0)) := by rw [hW]; exact row_same hg
  have hgb : g ≠ (fr i).blk := ne_of_tag hTg hF.1 (by simp)
  have fW : FrameW W T i { fr i with bytes := s.data.toList } := by
    refine ⟨hF.1, ?_, ?_⟩
    · rw [hW]; exact (row_other hgb).trans hF.2.1
    · show RowT W T _ _ 1 (fr i).bv s.data.toList.length (cells s.data.toList)
      rw [hls, hbv]
      have hlc : (cells s.data.toList).length = 512 := by rw [cells_length, hls]
      have hcl : cur.toList.length = cap := by simpa using hcs
      refine RowT.mk (by rw [hlc]) hTg gW hc1 hc2 ?_ ?_
      · rw [List.size_toArray, lay_length _ _ _ (by rw [hlc]; omega)]; omega
      · rw [List.toList_toArray]
        unfold lay
        rw [List.take_zero, List.nil_append, List.take_left' (by rw [hlc])]
  have MW := hM.setFrame i { fr i with bytes := s.data.toList } rfl sW fW
  have k3 : W.cell? ⟨(fr i).blk, 3, none⟩ = some (.bool (fr i).changed) := by
    have := fW.cell 3
    exact this
  have z3 : W.frozen? ⟨(fr i).blk, 3, none⟩ = false := fW.froz 3
  have hne : s.toList.isEmpty = false := nonempty_of (by omega)
  have HM := Lib.hid MW; have HD := Lib.hid hD; have HL := Lib.hid hL; have HF := Lib.hid hF; have HA := Lib.hid ha; have HS := Lib.hid sW; have HLS := Lib.hid hls
  obtain ⟨b, hb⟩ : ∃ b, b = (fr i).blk := ⟨_, rfl⟩
  have hpd' : Calls Try.prog 95 #[ptr p, .int .i64 page] w fun e w' => w = w' ∧ e = .returned (ptr b) := by rw [hb]; exact hpd
  have HB := Lib.hid hb
  rw [← hb] at k1 k3 z3
  obtain ⟨ch, hch⟩ : ∃ ch, ch = (fr i).changed := ⟨_, rfl⟩
  rw [← hch] at k3
  clear hM hD hL hF ha hpd hpin MW sW fW gW hW hlen hR hbv hTg hg hcs htk hpp hls hch hgb hb
  go_enter Try.func77, Try.ntmps77
  go_wp2_with (first | (go_at_call 85; refine (pool_given p w most c1 hm0).mono ?_; rintro e w' ⟨rfl, rfl⟩) | (go_at_call 95; refine hpd'.mono ?_; rintro e w' ⟨rfl, rfl⟩))
  all_goals
    go_ret
    have M2 := HM.out.setFr HS.out.fresh hi 3 (.bool true) { fr i with bytes := s.data.toList, changed := true } (by rw [upd_same]; rfl) (by rw [upd_same]) (by rw [upd_same]) (by rw [upd_same])
    rw [upd_upd, upd_same] at M2
    have s2 := HS.out.setCell (b := b) (o := 3) (v := .bool true) (by rw [HB.out, HF.out.1]; simp)
    rw [← HB.out] at M2
    refine ⟨rfl, ⟨n, most, hand, _, at', nr, i, M2, HD.out.kept s2 (fun t ht => by cases t <;> first | rfl | cases ht), HL.out.wrote _ _ HA.out rfl rfl rfl rfl HLS.out, HA.out⟩, s2.mono (fun t ht => by simp at ht; rcases ht with h | h <;> rw [h] <;> rfl)⟩

end Go.Proofs.Ytiolpfneppchnaa
