/- The pool (layer 4): room. -/
import Derived.Test.YtiolpfneppchnaaVsPool3
namespace Go.Proofs.Ytiolpfneppchnaa
open Go Go.RowKit Go.Vs

def newFr (b : Nat) : Fr := { page := 0, bytes := [], pins := 0, changed := false, lately := false, blk := b, bv := .slice none 0 0 }

theorem plist_congr {fr fr' : Nat → Fr} {n : Nat} (h : ∀ i, i < n → (fr' i).blk = (fr i).blk) : plist fr' n = plist fr n := by
  unfold plist
  apply List.map_congr_left
  intro j hj
  rw [h j (List.mem_range.1 hj)]

theorem plist_succ (fr : Nat → Fr) (n : Nat) : plist fr (n + 1) = plist fr n ++ [ptr (fr n).blk] := by
  simp [plist, List.range_succ]

set_option maxRecDepth 100000 in
set_option maxHeartbeats 800000 in
theorem pool_room_new (p d most n hand : Nat) (fr : Nat → Fr) (at' : Int → Option Nat) (w : World) (T : Tags) (hf : Fresh w T) (h : PoolM w T p d most n hand fr at') (hn : n < most) (hm : most ≤ 1024) (ha : ∀ k i, at' k = some i → i < n) :
    Calls Try.prog 94 #[ptr p] w fun e w' => e = .returned (ptr w.heap.size) ∧
      ∃ T', PoolM w' T' p d most (n + 1) hand (upd fr n (newFr w.heap.size)) at' ∧ Step isPoolM w T w' T' := by
  obtain ⟨m, lv, h1, h2, h3, h4, h5, h6⟩ := h
  obtain ⟨i0, hi0, hz0, hz1, hz2⟩ := info_parts info_pframe
  obtain ⟨ao, cap, hlv⟩ : ∃ ao cap, lv = .slice ao n cap := by
    rcases h4.cases with ⟨e, rfl, _⟩ | ⟨g, cap, cur, e, _⟩
    · exact ⟨none, 0, e⟩
    · exact ⟨_, _, e⟩
  have ll := lt_of_at h3
  rw [hlv] at h3 h4
  have c1 : w.cell? ⟨p, 1, none⟩ = some (.int .i64 most) := by rw [cell_at h3]; rfl
  have c2 : w.cell? ⟨p, 2, none⟩ = some (.slice ao n cap) := by rw [cell_at h3]; rfl
  have hnm : (n : Int) < most := by omega
  have H3 := Lib.hid h3; have H4 := Lib.hid h4; have H5 := Lib.hid h5; have H6 := Lib.hid h6; have HA := Lib.hid ha; have HV := Lib.hid hlv
  clear h3 h4 h5 h6 ha hlv
  go_enter Try.func94, Try.ntmps94
  go_wp2
  go_quiet (fail)
  generalize hW : w.drewN nq = W
  have gW : W.heap = w.heap := by rw [← hW]; rfl
  have sW : Step isPoolM w T W T := by rw [← hW]; exact (Step.refl hf).drewN _
  have c2 : W.cell? ⟨p, 2, none⟩ = some (.slice ao n cap) := by rw [← hW]; exact c2
  have lW : p < W.heap.size := by rw [gW]; exact ll
  have ca : ∀ o : Obj, (W.alloc o).cell? ⟨p, 2, none⟩ = some (.slice ao n cap) := fun o => by rw [cell_at ((alloc_old lW).trans ((congrArg (·[p]?) gW).trans H3.out))]; rfl
  have HGW := Lib.hid gW
  clear hW gW
  go_wp2_with (at_builtin; refine hold_of ?_)
  unfold Hold
  obtain ⟨b, hb⟩ : ∃ b, b = W.heap.size := ⟨_, rfl⟩
  generalize hX : W.alloc (Obj.cells #[Value.int IntKind.i64 0, Value.slice none 0 0, Value.int IntKind.i64 0, Value.bool false, Value.bool false] 134) = X
  have fX : X.heap[b]? = some (.cells #[.int .i64 0, .slice none 0 0, .int .i64 0, .bool false, .bool false] 134 (0, 0)) := by rw [← hX, hb]; exact alloc_new
  have sX : Step isPoolM w T X (T.put b (.frame n)) := by rw [← hX, hb]; exact sW.allocTag _ rfl
  have oX : ∀ k, k < w.heap.size → X.heap[k]? = w.heap[k]? := by
    intro k hk
    rw [← hX, alloc_old (by rw [HGW.out]; exact hk), HGW.out]
  have zX : X.heap.size = b + 1 := by rw [← hX, hb]; exact alloc_size
  have hone := cell_one_new X (ptr b) 132
  rw [zX] at hone
  have hbw : b = w.heap.size := by rw [hb, HGW.out]
  rw [← hb]
  have R1 : RowT X (T.put b (.frame n)) .plist 132 1 (.slice ao n cap) n (plist fr n) :=
    (H4.out.other (fun k _ hk => oX k hk)).retag (fun k hk hT => by
      by_cases e : k = b
      · rw [e, hf b (by omega)] at hT; cases hT
      · rw [Tags.put_other _ _ e]; exact hT)
  refine wpList_append_T rfl _ _ _ _ rfl 132 i0 (.pointer none) 1 8 und_plist hi0 hz0 hz1 hz2 rfl (T.put b (.frame n)) .plist (sX.alloc _).fresh _ n (plist fr n) rfl (R1.other (fun k _ hk => alloc_old hk)) _ 1 [ptr b] rfl (Src.ofSlice _ und_plist _ 1 1 _ rfl hone (by intro u hu; simp at hu; subst hu; rfl)) (by unfold maxLen; omega) (by omega) ?_
  intro v' w2 T2 hr2 hst2 _
  have hTb : ∀ k, k < w.heap.size → (T.put b (.frame n)) k = T k := fun k hk => Tags.put_other _ _ (by omega)
  have hst3 := ((Step.refl (C := fun u => u == .plist) sX.fresh).alloc (.cells #[ptr b] 132)).trans hst2
  have hp2 : w2.heap[p]? = _ := hst3.at ((oX p ll).trans H3.out) (by rw [hTb p ll, h1]; rfl)
  have hTp : T2 p = .pool := hst3.tag ((oX p ll).trans H3.out) (by rw [hTb p ll]; exact h1)
  have k2 : w2.cell? ⟨p, 2, none⟩ = some (.slice ao n cap) := by rw [cell_at hp2]; rfl
  have z2 : w2.frozen? ⟨p, 2, none⟩ = false := froz_at hp2
  obtain ⟨g2, cap2, hval2⟩ : ∃ g cap, v' = .slice (some ⟨g, 0, none⟩) (n + 1) cap := by
    rcases hr2.cases with ⟨_, h2, _⟩ | ⟨g, cap, cur, h1, _⟩
    · omega
    · exact ⟨g, cap, h1⟩
  have HR := Lib.hid hr2; have HP := Lib.hid hp2; have HS3 := Lib.hid hst3; have HTB := Lib.hid hTb; have HBW := Lib.hid hbw; have FX := Lib.hid fX; have OX := Lib.hid oX
  clear hr2 hp2 hst3 hTb hbw fX oX hX hone R1 ca hb hst2
  rw [hval2]
  have HV2 := Lib.hid hval2
  clear hval2
  go_wp2
  go_ret
  have dd := set_same (o := 2) (v := .slice (some ⟨g2, 0, none⟩) (n + 1) cap2) HP.out
  have s3 : Step isPoolM w T w2 T2 := sX.trans (HS3.out.mono (by intro t ht; rw [beq_iff_eq] at ht; rw [ht]; rfl))
  have s4 : Step (fun t => t == .pool) w2 T2 (w2.setCell ⟨p, 2, none⟩ (.slice (some ⟨g2, 0, none⟩) (n + 1) cap2)) T2 := (Step.refl s3.fresh).setCell (by rw [hTp]; rfl)
  have s5 : Step (fun t => t == .pool || t == .plist) X (T.put b (.frame n)) (w2.setCell ⟨p, 2, none⟩ (.slice (some ⟨g2, 0, none⟩) (n + 1) cap2)) T2 := (HS3.out.mono (by intro t ht; rw [ht]; simp)).trans (s4.mono (by intro t ht; rw [ht]; simp))
  have sF : ∀ i, i < n → FrameW X (T.put b (.frame n)) i (fr i) := by
    intro i hi
    have hF := H6.out i hi
    have hlt := lt_of_at hF.2.1
    refine ⟨by rw [HTB.out _ hlt]; exact hF.1, (OX.out _ hlt).trans hF.2.1, ?_⟩
    refine (hF.2.2.other (fun k _ hk => OX.out k hk)).retag (fun k hk hT => ?_)
    by_cases e : k = b
    · rw [e, hf b (by have := HBW.out; omega)] at hT; cases hT
    · rw [Tags.put_other _ _ e]; exact hT
  have hF0 : FrameW X (T.put b (.frame n)) n (newFr b) := ⟨Tags.put_same _ _ _, FX.out, RowT.nil _ _ _ _ _⟩
  rw [← HBW.out]
  refine ⟨rfl, T2, ⟨m, .slice (some ⟨g2, 0, none⟩) (n + 1) cap2, hTp, ?_, dd, ?_, ?_, ?_⟩, s3.setCell (by rw [hTp]; rfl)⟩
  · exact s5.tagOf (by rw [zX]; have := H5.out.lt; have := HBW.out; omega) (by rw [HTB.out _ H5.out.lt]; exact h2)
  · have := HR.out
    rw [HV2.out] at this
    have e1 : plist (upd fr n (newFr b)) (n + 1) = plist fr n ++ [ptr b] := by
      rw [plist_succ, upd_same, plist_congr (fr := fr) (fun i hi => by rw [upd_other _ _ (by omega : i ≠ n)])]
      rfl
    rw [e1]
    exact this.kept s4 rfl
  · have hmm : IMap X m (fun k => (at' k).map fun i => ptr (fr i).blk) := H5.out.kept (OX.out m H5.out.lt)
    have := hmm.keptStep (t := .pmap) (by rw [HTB.out _ H5.out.lt]; exact h2) s5 rfl
    have e1 : (fun k => (at' k).map fun i => ptr (upd fr n (newFr b) i).blk) = fun k => (at' k).map fun i => ptr (fr i).blk := by
      funext k
      cases hk : at' k with
      | none => rfl
      | some i => simp only [Option.map_some]; rw [upd_other _ _ (by have := HA.out k i hk; omega : i ≠ n)]
    rw [e1]
    exact this
  · intro i hi
    by_cases e : i = n
    · subst e; rw [upd_same]; exact hF0.kept s5 rfl rfl
    · rw [upd_other _ _ e]; exact (sF i (by omega)).kept s5 rfl rfl

end Go.Proofs.Ytiolpfneppchnaa
