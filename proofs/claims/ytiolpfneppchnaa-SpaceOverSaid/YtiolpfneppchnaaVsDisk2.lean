/- The disk (layer 2), its other functions. -/
import Derived.Test.YtiolpfneppchnaaVsDisk
import Derived.Test.YtiolpfneppchnaaVsOps3
namespace Go.Proofs.Ytiolpfneppchnaa
open Go Go.RowKit Go.Vs

theorem given_yes (d : Nat) (i : Nat) (hi : i < 2) (w : World) (h0 : w.cell? ⟨d, 0, none⟩ = some (.bool true)) :
    Calls Try.prog 92 #[.pointer (some ⟨d, 0, none⟩), .int .i64 i] w fun e w' => e = .returned (.bool true) ∧ w = w' := by
  have h1 : (0 : Int) ≤ i := by omega
  have h2 : (i : Int) < 4 := by omega
  go_enter Try.func92, Try.ntmps92
  go_wp2
  go_ret
  exact ⟨rfl, rfl⟩

theorem DiskR.tag {w : World} {T : Tags} {d : Nat} {f : Nat → Bs} {n : Nat} (h : DiskR w T d f n) : T d = .disk := h.1
theorem DiskR.is {w : World} {T : Tags} {d : Nat} {f : Nat → Bs} {n : Nat} (h : DiskR w T d f n) : w.cell? ⟨d, 0, none⟩ = some (.bool true) := by
  obtain ⟨_, v, rv, xs, hd, _⟩ := h
  rw [cell_at hd]; rfl

/-- a file's cell, as a slice written out that reads as its bytes. -/
theorem DiskR.file {w : World} {T : Tags} {d : Nat} {f : Nat → Bs} {n : Nat} (h : DiskR w T d f n) {i : Nat} (hi : i < 2) :
    ∃ ao cap, w.cell? ⟨d, 1 + i, none⟩ = some (.slice ao (f i).length cap) ∧ (f i).length ≤ cap ∧ cap ≤ maxLen ∧ (f i).length ≤ 4194304 ∧
      SlB w (.slice ao (f i).length cap) (f i) := by
  obtain ⟨_, v, rv, xs, hd, hF, _⟩ := h
  have hFi := hF i hi
  rcases hFi.1.cases with ⟨h1, h2, _⟩ | ⟨g, cap, cur, hval, _, hg, hc, hm, hcs, ht⟩
  · refine ⟨none, 0, ?_, by omega, by simp, hFi.2, ⟨none, 0, rfl, by omega, by simp, .inl ⟨rfl, rfl, List.eq_nil_of_length_eq_zero h2⟩⟩⟩
    rw [cell_at hd, diskCells_get v rv hi, h1, h2]
  · refine ⟨some ⟨g, 0, none⟩, cap, ?_, hc, hm, hFi.2, BlkB.slb (E := 5) ⟨cur, (0, 0), hg, .inl rfl, by simpa using hcs, hc, hm, by simpa using ht⟩⟩
    rw [cell_at hd, diskCells_get v rv hi, hval]

theorem DiskR.kept {C : Tag → Bool} {w w' : World} {T T' : Tags} {d : Nat} {f : Nat → Bs} {n : Nat} (h : DiskR w T d f n) (hs : Step C w T w' T') (hc : ∀ t, isDisk t = true → C t = false) : DiskR w' T' d f n := by
  obtain ⟨hT, v, rv, xs, hd, hF, hr⟩ := h
  exact ⟨hs.tag hd hT, v, rv, xs, hs.at hd (by rw [hT]; exact hc _ rfl), fun i hi => (hF i hi).kept hs (hc _ rfl), hr.kept hs (hc _ rfl)⟩

set_option maxHeartbeats 400000 in
theorem disk_size (d : Nat) (i : Nat) (hi : i < 2) (w : World) (T : Tags) (f : Nat → Bs) (n : Nat) (h : DiskR w T d f n) :
    Calls Try.prog 74 #[.pointer (some ⟨d, 0, none⟩), .int .i64 i] w fun e w' => e = .returned (.int .i64 (f i).length) ∧ w = w' := by
  obtain ⟨ao, cap, c1, hc, hm, hb, _⟩ := h.file hi
  have c0 := h.is
  have h1 : (0 : Int) ≤ i := by omega
  have h2 : (i : Int) < 4 := by omega
  go_enter Try.func74, Try.ntmps74
  go_wp2_with (go_at_call 92; refine (given_yes d i hi _ c0).mono ?_; rintro e w' ⟨rfl, rfl⟩)
  go_ret
  exact ⟨rfl, rfl⟩

set_option maxHeartbeats 400000 in
theorem disk_read (d : Nat) (i : Nat) (hi : i < 2) (at' m : Nat) (w : World) (T : Tags) (f : Nat → Bs) (n : Nat) (h : DiskR w T d f n) (hin : at' + m ≤ (f i).length) :
    Calls Try.prog 73 #[.pointer (some ⟨d, 0, none⟩), .int .i64 i, .int .i64 at', .int .i64 m] w fun e w' => e = .returned (.tuple #[str (((f i).drop at').take m), .int .i64 0]) ∧ w = w' := by
  obtain ⟨ao, cap, c1, hc, hm, hb, hv⟩ := h.file hi
  have c0 := h.is
  have h1 : (0 : Int) ≤ i := by omega
  have h2 : (i : Int) < 4 := by omega
  have h3 : (0 : Int) ≤ at' := by omega
  have h4 : (0 : Int) ≤ m := by omega
  have h5 : (at' : Int) ≤ (f i).length := by omega
  have h6 : (m : Int) ≤ (f i).length - at' := by omega
  unfold maxLen at hm
  have h7 : ((at' : Int) + m).toNat = at' + m := by omega
  have h8 : (at' : Int) + m ≤ cap := by omega
  go_enter Try.func73, Try.ntmps73
  go_wp2_with (first | (go_at_call 92; refine (given_yes d i hi _ c0).mono ?_; rintro e w' ⟨rfl, rfl⟩) | (with_reducible refine hold_slice _ _ _ _ _ rfl ?_))
  unfold Hold
  refine wpList_cut_lh rfl _ _ _ _ rfl _ und_bytes size_u8 rfl hv rfl rfl h3 (by omega) (by omega) ?_
  intro r hr _
  rw [h7, Int.toNat_natCast, Nat.add_sub_cancel_left] at hr
  go_wp2_with (with_reducible refine hold_convert _ _ _ rfl ?_)
  unfold Hold
  refine wpList_string rfl _ _ _ rfl _ und_bytes und_u8 und_string rfl hr ?_
  go_wp2
  go_ret2
  exact ⟨rfl, rfl⟩

theorem method_put (cs : Array Value) (w : World) : (method 289 160 (.agg cs) "vestibule/disk.do").run Try.prog w = .ok (134, .agg cs) w := by kernel_rfl
theorem method_trim (cs : Array Value) (w : World) : (method 289 143 (.agg cs) "vestibule/disk.do").run Try.prog w = .ok (133, .agg cs) w := by kernel_rfl

set_option maxHeartbeats 400000 in
theorem disk_does_put (d : Nat) (i : Nat) (hi : i < 2) (at' : Nat) (s : ByteArray) (w : World) (T : Tags) (f : Nat → Bs) (n : Nat) (hf : Fresh w T) (h : DiskR w T d f n) (h0 : 0 < s.size) (hb : at' + s.size ≤ 4194304) (hn : n < 1099511627776) :
    Calls Try.prog 93 #[.pointer (some ⟨d, 0, none⟩), .iface 160 (.agg #[.int .i64 i, .int .i64 at', .string s])] w fun e w' => e = .returned (.int .i64 0) ∧
      ∃ T', DiskR w' T' d (upd f i (wr (f i) at' s.data.toList)) (n + 1) ∧ Step isDisk w T w' T' := by
  obtain ⟨i0, hi0, hz0, hz1, hz2⟩ := info_parts info_raw
  have hmeth := method_put #[.int .i64 i, .int .i64 at', .string s]
  go_enter Try.func93, Try.ntmps93
  go_wp2_with fail
  refine (put_do d i hi at' s w T f n hf h h0 hb).mono ?_
  rintro e w1 ⟨rfl, T1, ⟨hTd, v, rv, xs, hd, hF, hr⟩, hst⟩
  have ld := lt_of_at hd
  have c5 : w1.cell? ⟨d, 5, none⟩ = some rv := by rw [cell_at hd]; rfl
  go_wp2_with (at_builtin; refine hold_of ?_)
  unfold Hold
  have hst1 : Step isDisk w T (w1.alloc (.cells #[.iface 160 (.agg #[.int .i64 i, .int .i64 at', .string s])] 163)) T1 := hst.alloc _
  refine wpList_append_T rfl _ _ _ _ rfl 163 i0 .nilIface 1 16 und_raws hi0 hz0 hz1 hz2 rfl T1 .raws hst1.fresh _ n xs rfl (hr.other (fun k _ hk => alloc_old hk)) _ 1 [.iface 160 (.agg #[.int .i64 i, .int .i64 at', .string s])] rfl (Src.ofSlice _ und_raws _ 1 1 _ rfl (cell_one_new _ _ _) (by intro u hu; simp at hu; subst hu; rfl)) (by unfold maxLen; omega) (by omega) ?_
  intro v' w2 T2 hr2 hst2 _
  have hst3 := hst1.trans (hst2.mono (D := isDisk) (by intro t ht; rw [beq_iff_eq] at ht; rw [ht]; rfl))
  have hd2 : w2.heap[d]? = some (.cells (diskCells v rv) 95 (0, 0)) := hst2.at ((alloc_old ld).trans hd) (by rw [hTd]; rfl)
  have hTd2 : T2 d = .disk := hst2.tag ((alloc_old ld).trans hd) hTd
  have c5' : w2.cell? ⟨d, 5, none⟩ = some rv := by rw [cell_at hd2]; rfl
  have z5 : w2.frozen? ⟨d, 5, none⟩ = false := froz_at hd2
  have hv' := hr2.cases
  obtain ⟨g2, cap2, cur2, hval2⟩ : ∃ g cap cur, v' = .slice (some ⟨g, 0, none⟩) (n + 1) cap ∧ T2 g = .raws ∧ w2.heap[g]? = some (.cells cur 163 (0, 0)) := by
    rcases hv' with ⟨_, h2, _⟩ | ⟨g, cap, cur, h1, h2, h3, _⟩
    · omega
    · exact ⟨g, cap, cur, h1, h2, h3⟩
  have HR := Lib.hid hr2; have HD := Lib.hid hd2
  clear c5 hv' hr2 hd2
  rw [hval2.1]
  have HV := Lib.hid hval2
  clear hval2
  go_wp2
  go_ret
  have dd := set_same (o := 5) (v := .slice (some ⟨g2, 0, none⟩) (n + 1) cap2) HD.out
  refine ⟨rfl, T2, ⟨hTd2, v, .slice (some ⟨g2, 0, none⟩) (n + 1) cap2, xs ++ [.iface 160 (.agg #[.int .i64 i, .int .i64 at', .string s])], dd, ?_, ?_⟩, hst3.setCell (by rw [hTd2]; rfl)⟩
  · intro j hj
    exact (((hF j hj).other (fun k _ hk => alloc_old hk)).kept hst2 rfl).other (fun k hk _ => set_other (fun e => by rw [← e, hTd2] at hk; cases hk))
  · have := HR.out
    rw [HV.out.1] at this
    exact this.other (fun k hk _ => set_other (fun e => by rw [← e, hTd2] at hk; cases hk))


set_option maxHeartbeats 400000 in
theorem disk_write (d : Nat) (i : Nat) (hi : i < 2) (at' : Nat) (s : ByteArray) (w : World) (T : Tags) (f : Nat → Bs) (n : Nat) (hf : Fresh w T) (h : DiskR w T d f n) (h0 : 0 < s.size) (hb : at' + s.size ≤ 4194304) (hn : n < 1099511627776) :
    Calls Try.prog 82 #[.pointer (some ⟨d, 0, none⟩), .int .i64 i, .int .i64 at', .string s] w fun e w' => e = .returned (.int .i64 0) ∧
      ∃ T', DiskR w' T' d (upd f i (wr (f i) at' s.data.toList)) (n + 1) ∧ Step isDisk w T w' T' := by
  have c0 := h.is
  have h1 : (0 : Int) ≤ at' := by omega
  have h2 : (at' : Int) ≤ 4194304 := by omega
  have h3 : (s.size : Int) ≤ 4194304 - at' := by omega
  have hdoes := disk_does_put d i hi at' s w T f n hf h h0 hb hn
  have HD := Lib.hid hdoes
  clear hdoes
  go_enter Try.func82, Try.ntmps82
  go_wp2_with (first | (go_at_call 92; refine (given_yes d i hi _ c0).mono ?_; rintro e w' ⟨rfl, rfl⟩) | (go_at_call 93; refine HD.out.mono ?_; rintro e w' ⟨rfl, hq⟩))
  go_ret
  exact ⟨rfl, hq⟩

set_option maxHeartbeats 1600000 in
theorem trim_do (d : Nat) (i : Nat) (hi : i < 2) (m : Nat) (w : World) (T : Tags) (f : Nat → Bs) (n : Nat) (hf : Fresh w T) (h : DiskR w T d f n) (hm : m ≤ (f i).length) :
    Calls Try.prog 133 #[.agg #[.int .i64 i, .int .i64 m], .pointer (some ⟨d, 0, none⟩)] w fun e w' => e = .returned (.tuple #[]) ∧
      ∃ T', DiskR w' T' d (upd f i ((f i).take m)) n ∧ Step isDisk w T w' T' := by
  obtain ⟨hTd, v, rv, xs, hd, hF, hrw⟩ := h
  have ld := lt_of_at hd
  have hst0 : Step isDisk w T (w.alloc (Obj.cells #[Value.int IntKind.i64 ↑i, Value.int IntKind.i64 ↑m] 143)) T := (Step.refl hf).alloc _
  have hi0 : (0 : Int) ≤ i := by omega
  have hi4 : (i : Int) < 4 := by omega
  have hm0 : (0 : Int) ≤ m := by omega
  have c1 : w.cell? ⟨d, 1 + i, none⟩ = some (v i) := by rw [cell_at hd]; exact diskCells_get v rv hi
  have z1 : w.frozen? ⟨d, 1 + i, none⟩ = false := froz_at hd
  have hFi := hF i hi
  have hvi : ∃ ao cap0, v i = .slice ao (f i).length cap0 ∧ (f i).length ≤ cap0 ∧ FileT w T i (.slice ao m cap0) ((f i).take m) := by
    rcases hFi.1.cases with ⟨h1, h2, h3⟩ | ⟨g, cap, cur, hval, hT, hg, hc, hmx, hcs, ht⟩
    · have e1 : f i = [] := List.eq_nil_of_length_eq_zero h2
      obtain rfl : m = 0 := by omega
      refine ⟨none, 0, by rw [h1, h2], by omega, ?_, by simp⟩
      rw [e1]; exact RowT.nil _ _ _ _ _
    · refine ⟨some ⟨g, 0, none⟩, cap, hval, hc, ?_, by have := hFi.2; simp; omega⟩
      have hlen : ((f i).take m).length = m := by simp; omega
      rw [hlen]
      refine RowT.mk (by rw [cells_length, hlen]; simp) hT hg (by omega) hmx hcs ?_
      rw [← cells_take, ← ht, List.take_take]
      congr 1; omega
  obtain ⟨ao, cap0, hvi, hc0, hnew⟩ := hvi
  have hmc : (m : Int) ≤ cap0 := by omega
  rw [hvi] at c1
  have HF := Lib.hid hF; have HN := Lib.hid hnew; have HD := Lib.hid hd; have HR := Lib.hid hrw
  clear hF hnew hd hrw hvi hFi
  go_enter Try.func133, Try.ntmps133
  go_wp2
  go_region
  go_wp2
  go_end0
  have dd := set_same (o := 1 + i) (v := .slice ao m cap0) HD.out
  rw [diskCells_set _ _ _ hi] at dd
  have oo : ∀ k, k ≠ d → k < w.heap.size → ((w.setCell ⟨d, 1 + i, none⟩ (.slice ao m cap0)).alloc (Obj.cells #[Value.int IntKind.i64 ↑i, Value.int IntKind.i64 ↑m] 143)).heap[k]? = w.heap[k]? :=
    fun k hk hlt => (alloc_old (by rw [set_size]; exact hlt)).trans (set_other (fun e => hk e.symm))
  refine ⟨rfl, T, ⟨hTd, upd v i (.slice ao m cap0), rv, xs, (alloc_old (by rw [set_size]; exact ld)).trans dd, ?_, ?_⟩, ((((Step.refl hf).setCell (by rw [hTd]; rfl)).alloc _).drew)⟩
  · intro j hj
    by_cases e : j = i
    · subst e
      rw [upd_same, upd_same]
      exact HN.out.other (fun k hk hlt => oo k (fun e => by rw [e, hTd] at hk; cases hk) hlt)
    · rw [upd_other _ _ e, upd_other _ _ e]
      exact (HF.out j hj).other (fun k hk hlt => oo k (fun e => by rw [e, hTd] at hk; cases hk) hlt)
  · exact HR.out.other (fun k hk hlt => oo k (fun e => by rw [e, hTd] at hk; cases hk) hlt)

set_option maxHeartbeats 400000 in
theorem disk_does_trim (d : Nat) (i : Nat) (hi : i < 2) (m : Nat) (w : World) (T : Tags) (f : Nat → Bs) (n : Nat) (hf : Fresh w T) (h : DiskR w T d f n) (hm : m ≤ (f i).length) (hn : n < 1099511627776) :
    Calls Try.prog 93 #[.pointer (some ⟨d, 0, none⟩), .iface 143 (.agg #[.int .i64 i, .int .i64 m])] w fun e w' => e = .returned (.int .i64 0) ∧
      ∃ T', DiskR w' T' d (upd f i ((f i).take m)) (n + 1) ∧ Step isDisk w T w' T' := by
  obtain ⟨i0, hi0, hz0, hz1, hz2⟩ := info_parts info_raw
  have hmeth := method_trim #[.int .i64 i, .int .i64 m]
  go_enter Try.func93, Try.ntmps93
  go_wp2_with fail
  refine (trim_do d i hi m w T f n hf h hm).mono ?_
  rintro e w1 ⟨rfl, T1, ⟨hTd, v, rv, xs, hd, hF, hr⟩, hst⟩
  have ld := lt_of_at hd
  have c5 : w1.cell? ⟨d, 5, none⟩ = some rv := by rw [cell_at hd]; rfl
  go_wp2_with (at_builtin; refine hold_of ?_)
  unfold Hold
  have hst1 : Step isDisk w T (w1.alloc (.cells #[.iface 143 (.agg #[.int .i64 i, .int .i64 m])] 163)) T1 := hst.alloc _
  refine wpList_append_T rfl _ _ _ _ rfl 163 i0 .nilIface 1 16 und_raws hi0 hz0 hz1 hz2 rfl T1 .raws hst1.fresh _ n xs rfl (hr.other (fun k _ hk => alloc_old hk)) _ 1 [.iface 143 (.agg #[.int .i64 i, .int .i64 m])] rfl (Src.ofSlice _ und_raws _ 1 1 _ rfl (cell_one_new _ _ _) (by intro u hu; simp at hu; subst hu; rfl)) (by unfold maxLen; omega) (by omega) ?_
  intro v' w2 T2 hr2 hst2 _
  have hst3 := hst1.trans (hst2.mono (D := isDisk) (by intro t ht; rw [beq_iff_eq] at ht; rw [ht]; rfl))
  have hd2 : w2.heap[d]? = some (.cells (diskCells v rv) 95 (0, 0)) := hst2.at ((alloc_old ld).trans hd) (by rw [hTd]; rfl)
  have hTd2 : T2 d = .disk := hst2.tag ((alloc_old ld).trans hd) hTd
  have c5' : w2.cell? ⟨d, 5, none⟩ = some rv := by rw [cell_at hd2]; rfl
  have z5 : w2.frozen? ⟨d, 5, none⟩ = false := froz_at hd2
  have hv' := hr2.cases
  obtain ⟨g2, cap2, cur2, hval2⟩ : ∃ g cap cur, v' = .slice (some ⟨g, 0, none⟩) (n + 1) cap ∧ T2 g = .raws ∧ w2.heap[g]? = some (.cells cur 163 (0, 0)) := by
    rcases hv' with ⟨_, h2, _⟩ | ⟨g, cap, cur, h1, h2, h3, _⟩
    · omega
    · exact ⟨g, cap, cur, h1, h2, h3⟩
  have HR := Lib.hid hr2; have HD := Lib.hid hd2
  clear c5 hv' hr2 hd2
  rw [hval2.1]
  have HV := Lib.hid hval2
  clear hval2
  go_wp2
  go_ret
  have dd := set_same (o := 5) (v := .slice (some ⟨g2, 0, none⟩) (n + 1) cap2) HD.out
  refine ⟨rfl, T2, ⟨hTd2, v, .slice (some ⟨g2, 0, none⟩) (n + 1) cap2, xs ++ [.iface 143 (.agg #[.int .i64 i, .int .i64 m])], dd, ?_, ?_⟩, hst3.setCell (by rw [hTd2]; rfl)⟩
  · intro j hj
    exact (((hF j hj).other (fun k _ hk => alloc_old hk)).kept hst2 rfl).other (fun k hk _ => set_other (fun e => by rw [← e, hTd2] at hk; cases hk))
  · have := HR.out
    rw [HV.out.1] at this
    exact this.other (fun k hk _ => set_other (fun e => by rw [← e, hTd2] at hk; cases hk))

set_option maxHeartbeats 400000 in
theorem disk_trim (d : Nat) (i : Nat) (hi : i < 2) (m : Nat) (w : World) (T : Tags) (f : Nat → Bs) (n : Nat) (hf : Fresh w T) (h : DiskR w T d f n) (hm : m ≤ (f i).length) (hn : n < 1099511627776) :
    Calls Try.prog 75 #[.pointer (some ⟨d, 0, none⟩), .int .i64 i, .int .i64 m] w fun e w' => e = .returned (.int .i64 0) ∧
      ∃ T', DiskR w' T' d (upd f i ((f i).take m)) (n + 1) ∧ Step isDisk w T w' T' := by
  obtain ⟨ao, cap, c1, hc, hmx, hb, _⟩ := h.file hi
  have c0 := h.is
  have h1 : (0 : Int) ≤ i := by omega
  have h2 : (i : Int) < 4 := by omega
  have h3 : (0 : Int) ≤ m := by omega
  have h4 : (m : Int) ≤ (f i).length := by omega
  have hdoes := disk_does_trim d i hi m w T f n hf h hm hn
  have HD := Lib.hid hdoes
  clear hdoes
  go_enter Try.func75, Try.ntmps75
  go_wp2_with (first | (go_at_call 92; refine (given_yes d i hi _ c0).mono ?_; rintro e w' ⟨rfl, rfl⟩) | (go_at_call 93; refine HD.out.mono ?_; rintro e w' ⟨rfl, hq⟩))
  go_ret
  exact ⟨rfl, hq⟩

/-- a new disk: empty files. -/
theorem disk_new (w : World) (T : Tags) (hf : Fresh w T) :
    Calls Try.prog 9 #[] w fun e w' => e = .returned (.pointer (some ⟨w.heap.size, 0, none⟩)) ∧ ∃ T', DiskR w' T' w.heap.size (fun _ => []) 0 ∧ Step isDisk w T w' T' := by
  go_enter Try.func9, Try.ntmps9
  go_wp2
  go_ret
  refine ⟨rfl, T.put w.heap.size .disk, ⟨Tags.put_same _ _ _, fun _ => .slice none 0 0, .slice none 0 0, [], alloc_new, fun i _ => ⟨RowT.nil _ _ _ _ _, by simp⟩, RowT.nil _ _ _ _ _⟩, (Step.refl hf).allocTag _ rfl⟩

/-! The same with arguments as whatever numbers the caller has reckoned. -/
theorem disk_write' {I A : Int} (d : Nat) (i : Nat) (hi : i < 2) (at' : Nat) (hI : I = (i : Int)) (hA : A = (at' : Int)) (s : ByteArray) (w : World) (T : Tags) (f : Nat → Bs) (n : Nat) (hf : Fresh w T) (h : DiskR w T d f n) (h0 : 0 < s.size) (hb : at' + s.size ≤ 4194304) (hn : n < 1099511627776) :
    Calls Try.prog 82 #[.pointer (some ⟨d, 0, none⟩), .int .i64 I, .int .i64 A, .string s] w fun e w' => e = .returned (.int .i64 0) ∧
      ∃ T', DiskR w' T' d (upd f i (wr (f i) at' s.data.toList)) (n + 1) ∧ Step isDisk w T w' T' := by
  subst hI; subst hA; exact disk_write d i hi at' s w T f n hf h h0 hb hn

theorem disk_trim' {I A : Int} (d : Nat) (i : Nat) (hi : i < 2) (m : Nat) (hI : I = (i : Int)) (hA : A = (m : Int)) (w : World) (T : Tags) (f : Nat → Bs) (n : Nat) (hf : Fresh w T) (h : DiskR w T d f n) (hm : m ≤ (f i).length) (hn : n < 1099511627776) :
    Calls Try.prog 75 #[.pointer (some ⟨d, 0, none⟩), .int .i64 I, .int .i64 A] w fun e w' => e = .returned (.int .i64 0) ∧
      ∃ T', DiskR w' T' d (upd f i ((f i).take m)) (n + 1) ∧ Step isDisk w T w' T' := by
  subst hI; subst hA; exact disk_trim d i hi m w T f n hf h hm hn

theorem disk_size' {I : Int} (d : Nat) (i : Nat) (hi : i < 2) (hI : I = (i : Int)) (w : World) (T : Tags) (f : Nat → Bs) (n : Nat) (h : DiskR w T d f n) :
    Calls Try.prog 74 #[.pointer (some ⟨d, 0, none⟩), .int .i64 I] w fun e w' => e = .returned (.int .i64 (f i).length) ∧ w = w' := by
  subst hI; exact disk_size d i hi w T f n h

theorem disk_read' {I A M : Int} (d : Nat) (i : Nat) (hi : i < 2) (at' m : Nat) (hI : I = (i : Int)) (hA : A = (at' : Int)) (hM : M = (m : Int)) (w : World) (T : Tags) (f : Nat → Bs) (n : Nat) (h : DiskR w T d f n) (hin : at' + m ≤ (f i).length) :
    Calls Try.prog 73 #[.pointer (some ⟨d, 0, none⟩), .int .i64 I, .int .i64 A, .int .i64 M] w fun e w' => e = .returned (.tuple #[str (((f i).drop at').take m), .int .i64 0]) ∧ w = w' := by
  subst hI; subst hA; subst hM; exact disk_read d i hi at' m w T f n h hin

theorem DiskR.drewN {w : World} {T : Tags} {d : Nat} {f : Nat → Bs} {n : Nat} (h : DiskR w T d f n) (k : Nat) : DiskR (w.drewN k) T d f n := h
theorem DiskR.drew {w : World} {T : Tags} {d : Nat} {f : Nat → Bs} {n : Nat} (h : DiskR w T d f n) : DiskR w.drew T d f n := h
end Go.Proofs.Ytiolpfneppchnaa
