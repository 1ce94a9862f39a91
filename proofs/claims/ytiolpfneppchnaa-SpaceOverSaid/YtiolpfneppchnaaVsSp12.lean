/- The space (layer 5): Commit. -/
import Derived.Test.YtiolpfneppchnaaVsSp11
namespace Go.Proofs.Ytiolpfneppchnaa
open Go Go.RowKit Go.Vs




set_option maxRecDepth 100000 in
set_option maxHeartbeats 1600000 in
theorem act_commit (E : AEnv) (cur : Nat → Bs) (fl : List Nat) (gone : Int → Bool) (pv : Int → Option (Nat × Nat)) (w : World) (T : Tags) (hf : Fresh w T) (hA : ActR E w T cur gone pv) (hM : Meta cur fl) (hG : GoneIs gone fl) (hpv : ∀ q : Nat, pv q ≠ none → q ≤ tot cur) (ht : tot cur ≤ 2031)
    (hlog : (encR (E.K.recs.map encE)).length + 4 + 516 * (tot cur + 1) ≤ 4194304) (hN : E.N + 4096 < 1099511627770) :
    Calls Try.prog 20 #[ptr E.a] w fun e w' => e = .returned (.int .i64 0) ∧ ∃ T', (∃ K' : Kept, K'.base = cur ∧ SpR w' T' E.s E.d K' fl (E.N + 2 + (tot cur + 1)) ∧ (encR (K'.recs.map encE)).length ≤ (encR (E.K.recs.map encE)).length + 4 + 516 * (tot cur + 1) ∧ K'.recs.flatten.length ≤ E.K.recs.flatten.length + (tot cur + 1)) ∧ (T' E.a = .act ∧ w'.cell? ⟨E.a, 0, none⟩ = some (ptr E.s) ∧ w'.cell? ⟨E.a, 3, none⟩ = some (.bool true)) ∧ Step isAll w T w' T' := by
  obtain ⟨f, hI⟩ := hA
  have hgo := act_going E.a E.s false w hI.ac.c0 hI.ac.c3
  have c1 := hI.ac.c1
  have hla := lt_of_at hI.ac.2
  have hkq : ∀ ks, KeysOf (pagesV pv) ks → ∀ x ∈ ks, ∃ q : Nat, x = q ∧ q ≤ tot cur ∧ ∃ g cap, pv q = some (g, cap) ∧ BlkB w 5 g cap (cur q) := by
    intro ks hk x hx
    obtain ⟨v, hv⟩ := Option.isSome_iff_exists.1 ((hk.2 x).1 hx)
    obtain ⟨y, hy, _⟩ := Option.map_eq_some_iff.1 hv
    obtain ⟨q, e1, e2, e3, e4⟩ := hI.pg.2.2.1 x y hy
    subst e1
    exact ⟨q, rfl, hpv q (by rw [hy]; simp), y.1, y.2, hy, e4⟩
  have hbn : ∀ ks, KeysOf (pagesV pv) ks → ks.length ≤ 1048576 := by
    intro ks hk
    refine Nat.le_trans (nodup_le hk.1 4096 (fun k hm => ?_)) (by omega)
    obtain ⟨q, e, h, _⟩ := hkq ks hk k hm
    omega
  have hbn2 : ∀ ks, KeysOf (pagesV pv) ks → ks.length ≤ tot cur + 1 := by
    intro ks hk
    refine nodup_le hk.1 (tot cur + 1) (fun k hm => ?_)
    obtain ⟨q, e, h, _⟩ := hkq ks hk k hm
    omega
  have HB := Lib.hid hbn; have HB2 := Lib.hid hbn2; have HI := Lib.hid hI; have HM := Lib.hid hM; have HG := Lib.hid hG; have HPV := Lib.hid hpv; have HKQ := Lib.hid hkq; have HLOG := Lib.hid hlog
  clear hbn hbn2 hI hM hG hpv hkq hlog
  go_enter Try.func20, Try.ntmps20
  go_wp2_with (first | (go_at_call 42; refine hgo.mono ?_; rintro e w' ⟨rfl, rfl⟩) | (with_reducible refine hold_range _ _ rfl ?_))
  unfold Hold
  refine wpList_range_map rfl _ _ rfl _ _ und_amap E.pm _ rfl HI.out.pg.2.1 ?_
  intro w2 left hit hks hbl hz
  have HBN : Hid (left.length ≤ 1048576) := Lib.hid (HB.out left hks)
  have HIT := Lib.hid hit; have HKS := Lib.hid hks; have HBL := Lib.hid hbl; have HZ := Lib.hid hz
  clear hit hks hbl hz
  obtain ⟨ri, hri⟩ : ∃ ri, ri = w.heap.size := ⟨_, rfl⟩
  rw [← hri] at HIT HBL HZ ⊢
  have HRI := Lib.hid hri
  clear hri
  go_frame
  go_wp2_with fail
  go_loopg [4, 5] left.length (fun k uo _ wr => ∃ (left' ks : List Int), left'.length = k ∧ Hid (IIter wr ri E.pm (pagesV pv) left') ∧ Hid (wr.ownsRow ri 3 1 uo ks.length (ks.map (Value.int .i64))) ∧ Hid (ks.Nodup ∧ (∀ x, x ∈ ks ↔ x ∈ left ∧ x ∉ left') ∧ ∀ x, x ∈ left' → x ∈ left) ∧ Hid (Below ri w wr) ∧ Hid (∀ g, uo.ownBlock = some g → g ≠ ri) ∧ Hid (ks.length + left'.length = left.length))
  case atStart => exact ⟨left, [], rfl, HIT, Lib.hid (World.ownsRow_nil _ _ _ _), Lib.hid ⟨List.nodup_nil, by simp, fun _ h => h⟩, HBL, Lib.hid (fun g hg => by simp [Value.ownBlock] at hg), Lib.hid (by simp)⟩
  case round =>
    obtain ⟨left', ks, hk, HI', HOW, HKS', HB', HNE, HLEN⟩ := hrel
    go_wp2_with (with_reducible refine hold_next _ rfl ?_)
    unfold Hold
    refine wpList_next_map rfl _ rfl E.pm _ _ left' rfl HI'.out ?_ ?_
    rotate_left
    · intro kx v w3 hmem hfx hit3 ho3 hz3 hos3 htp3 hou3 hen
      have hb3 : Below ri w w3 := ⟨hos3.trans HB'.out.os, htp3.trans HB'.out.tape, hou3.trans HB'.out.output, by rw [hz3]; exact HB'.out.size, fun j hj => (ho3 j (by omega)).trans (HB'.out.block j hj)⟩
      have how3 : w3.ownsRow ri 3 1 _ ks.length (ks.map (Value.int .i64)) := ownsRow_same HOW.out (fun g hg => ho3 g (HNE.out g hg))
      have hmlt : E.pm < ri := by rw [HRI.out]; exact (IMap.lt HI.out.pg.2.1)
      have hrlt : ri < w3.heap.size := by rw [hz3]; exact HI'.out.lt
      have hlpos := List.length_pos_of_mem hmem
      have HIT3 := Lib.hid hit3; have HB3 := Lib.hid hb3; have HOW3 := Lib.hid how3; have HFX := Lib.hid hfx; have HK := Lib.hid hk; have HMEM := Lib.hid hmem
      clear hit3 ho3 hz3 hos3 htp3 hou3 hb3 how3 hfx hk hmem
      go_frame
      go_wp2_with (at_builtin; refine hold_of ?_)
      unfold Hold
      obtain ⟨i0, hi0, hz0, hz1, hz2⟩ := info_parts info_int
      refine wpList_append_own_at _ rfl _ _ _ rfl ri 3 i0 _ 1 8 und_ints hi0 hz0 hz1 hz2 rfl (by omega) _ ks.length _ rfl (HOW3.out.alloc _) _ 1 1 [.int .i64 kx] rfl rfl (cell_one_new _ _ _) (by intro u hu; simp at hu; subst hu; rfl) (by unfold maxLen; have := HLEN.out; have := HBN.out; omega) (by have := HLEN.out; have := HBN.out; omega) (by have := HB3.out.size; have := HRI.out; simp; omega) ?_
      intro v' w4 hown4 hg4 _ hloc
      have hnd := HI'.out.nodup
      have hm4 : w4.heap[E.pm]? = w3.heap[E.pm]? := (hg4.block E.pm (by simp; omega) (fun e => by have := (HOW3.out.lt E.pm e.symm).1; omega)).trans (alloc_old (by omega))
      have hr4 : w4.heap[ri]? = w3.heap[ri]? := (hg4.block ri (by simp; omega) (fun e => HNE.out ri e.symm rfl)).trans (alloc_old hrlt)
      have hne4 : ∀ g, v'.ownBlock = some g → g ≠ ri := by
        intro g hg
        rcases hloc with h | h
        · exact HNE.out g (h.symm.trans hg)
        · rw [h] at hg
          simp only [Option.some.injEq, alloc_size] at hg
          omega
      have hb4 : Below ri w w4 := (HB3.out.alloc (by have := HB3.out.size; have := HRI.out; omega) _).grown hg4 (by have := HB3.out.size; have := HRI.out; simp; omega) (fun g hg => (HOW3.out.lt g hg).1)
      rw [show ks.map (Value.int .i64) ++ [Value.int .i64 kx] = (ks ++ [kx]).map (Value.int .i64) by simp] at hown4
      have HIT4 := Lib.hid (HIT3.out.kept hr4 hm4); have HB4 := Lib.hid hb4; have HOW4 := Lib.hid hown4; have HNE4 := Lib.hid hne4
      have HN4 : Hid ((ks ++ [kx]).Nodup ∧ (∀ x, x ∈ ks ++ [kx] ↔ x ∈ left ∧ x ∉ left'.erase kx) ∧ ∀ x, x ∈ left'.erase kx → x ∈ left) := Lib.hid (by
        obtain ⟨n1, n2, n3⟩ := HKS'.out
        have hkl := n3 kx HMEM.out
        refine ⟨?_, fun x => ?_, fun x hx => n3 x (List.mem_of_mem_erase hx)⟩
        · rw [List.nodup_append]
          refine ⟨n1, by simp, ?_⟩
          intro a ha b hb e
          simp only [List.mem_singleton] at hb
          have := ((n2 a).1 ha).2
          rw [e, hb] at this
          exact this HMEM.out
        · rw [List.mem_append, List.mem_singleton, n2 x, hnd.mem_erase_iff]
          by_cases e : x = kx
          · subst e; simp [hkl]
          · simp [e])
      have HL4 : Hid ((ks ++ [kx]).length + (left'.erase kx).length = left.length) := Lib.hid (by rw [List.length_append, List.length_erase_of_mem HMEM.out, List.length_singleton]; have := HLEN.out; omega)
      have HLT : Hid ((left'.erase kx).length < gk) := Lib.hid (by rw [List.length_erase_of_mem HMEM.out, ← HK.out]; omega)
      rw [show ks.length + 1 = (ks ++ [kx]).length by simp] at HOW4
      clear hm4 hr4 hne4 hb4 hown4 hg4 hloc hnd hmlt hrlt hlpos
      go_frame
      go_wp2_with fail
      go_roundg (left'.erase kx).length
      case measure => exact HLT.out
      case rel => exact ⟨_, _, rfl, HIT4, HOW4, HN4, HB4, HNE4, HL4⟩
    · intro hl
      have hkeys : KeysOf (pagesV pv) ks := by
        obtain ⟨n1, n2, n3⟩ := HKS'.out
        refine ⟨n1, fun x => ?_⟩
        rw [n2 x, hl, ← HKS.out.2 x]
        simp
      have hkn : ks.length ≤ 1048576 := by have := HLEN.out; have := HBN.out; omega
      have HKY := Lib.hid hkeys
      clear hkeys hl
      have hsort := sort_ints _ ks ri _ HOW.out (by omega)
      have HSO := Lib.hid hsort
      clear hsort
      go_frame
      go_wp2_with fail
      refine HSO.out.mono ?_
      rintro e5 w5 ⟨rfl, how5, hg5⟩
      have hb5 := HB'.out.grown hg5 (by have := HB'.out.size; have := HRI.out; omega) (fun g hg => (HOW.out.lt g hg).1)
      rw [HRI.out] at hb5
      have s5 : Step (fun _ => false) w T w5 T := (Step.refl hf).below hb5
      have hI5 := HI.out.kept s5 (fun _ _ => rfl)
      obtain ⟨kk, hkk⟩ : ∃ kk, kk = sorted ks := ⟨_, rfl⟩
      have hkl : kk.length = ks.length := by rw [hkk]; exact sorted_length ks
      rw [← hkk, ← hkl] at how5
      have hkm : ∀ x, x ∈ kk ↔ x ∈ ks := fun x => by rw [hkk]; exact (sorted_perm ks).mem_iff
      have hkb : kk.length ≤ tot cur + 1 := by rw [hkl]; exact HB2.out ks HKY.out
      obtain ⟨ao, cap4, hv4⟩ : ∃ ao cap, u4 = .slice ao kk.length cap := by
        rcases how5.2 with ⟨e, e2⟩ | ⟨g, cap, cur, e, _⟩
        · exact ⟨none, 0, by rw [e, e2]⟩
        · exact ⟨_, _, e⟩
      have hrow : ∀ i x, kk[i]? = some x → ∃ g, ao = some ⟨g, 0, none⟩ ∧ w5.cell? ⟨g, i, none⟩ = some (.int .i64 x) ∧ g < w5.heap.size := by
        intro i x hi
        have hi' : i < kk.length := (List.getElem?_eq_some_iff.1 hi).1
        rcases how5.2 with ⟨e, e2⟩ | ⟨g, cap', cur, e, _, hg, _, _, _, ht⟩
        · omega
        · rw [hv4] at e
          injection e with e1 e2 e3
          refine ⟨g, e1, ?_, lt_of_at hg⟩
          have : (kk.map (Value.int .i64))[i]? = some (Value.int .i64 x) := by rw [List.getElem?_map, hi]; rfl
          rw [← ht, List.getElem?_take, if_pos (by omega)] at this
          rw [cell_at hg]; simpa using this
      rw [hv4]
      have HROW := Lib.hid hrow; have HI5 := Lib.hid hI5; have HS5 := Lib.hid s5; have HKM := Lib.hid hkm; have HKL := Lib.hid hkl; have HV4 := Lib.hid hv4; have HB5 := Lib.hid hb5
      clear hrow how5 hg5 HSO hI5 s5 hb5 hkk hkm hkl hv4
      have c1 := HI5.out.ac.c1
      have hkb2 : kk.length ≤ 2032 := by omega
      go_wp2_with fail
      go_loopw [6, 8, 31] (fun u6 _ u31 wr => ∃ i : Nat, u31 = .int .i64 i ∧ i ≤ kk.length ∧ Hid (wr.ownsRow w5.heap.size 5 1 u6 (516 * i) (cells (encE (entsOf cur (kk.take i))))) ∧ Hid (Below w5.heap.size w5 wr)) (fun _ _ u31 _ => kk.length - (intOf u31).toNat)
      case atStart => exact ⟨0, rfl, Nat.zero_le _, Lib.hid (World.ownsRow_nil _ _ _ _), Lib.hid (Below.refl _ _)⟩
      case round =>
        obtain ⟨i, rfl, hi, HRW, HBW⟩ := hrel
        by_cases hin : i < kk.length
        · obtain ⟨x, hx⟩ : ∃ x, kk[i]? = some x := ⟨_, List.getElem?_eq_getElem hin⟩
          obtain ⟨g4, rfl, r2, r4⟩ := HROW.out i x hx
          have r5 : wr.cell? ⟨g4, i, none⟩ = some (.int .i64 x) := (HBW.out.cell (p := ⟨g4, i, none⟩) r4).trans r2
          obtain ⟨q, e1, e2, gq, capq, e3, e4⟩ := HKQ.out ks HKY.out x ((HKM.out x).1 (List.mem_of_getElem? hx))
          subst e1
          have hq4 : q < 4096 := by omega
          have hlq := (HM.out).len q hq4
          have hF : ∀ wx : World, Below w5.heap.size w5 wx → wx.cell? ⟨E.a, 1, none⟩ = some (.map (some E.pm)) ∧ (Instr.lookup 44 (.map (some E.pm)) (.int .i64 q) false).run Try.prog wx = .ok (.slice (some ⟨gq, 0, none⟩) 512 capq) wx ∧ Src Try.prog 1 69 (.slice (some ⟨gq, 0, none⟩) 512 capq) 512 (cells (cur q)) wx := by
            intro wx hbx
            have hba := below_trans HB5.out hbx HB5.out.size
            have sx : Step (fun _ => false) w T wx T := (Step.refl hf).below hba
            have hIx := HI.out.kept sx (fun _ _ => rfl)
            obtain ⟨i0, hi0, hz0, hz1, hz2⟩ := info_parts info_bytes
            have hl := run_lookup (P := Try.prog) (w := wx) 44 3 69 und_amap und_int hi0 hz0 hIx.pg.2.1 (q : Int) false
            simp only [pagesV, e3, Option.map_some, Option.getD_some, Bool.false_eq_true, if_false] at hl
            have hbk : BlkB wx 5 gq capq (cur q) := e4.kept (sx.same _ e4.lt rfl)
            refine ⟨hIx.ac.c1, hl, Src.ofSlice _ und_bytes _ 512 capq (cells (cur q)) (by rw [cells_length, hlq]) ?_ (cells_one _)⟩
            intro j u hu
            rw [cells_get] at hu
            obtain ⟨b, hb, rfl⟩ := Option.map_eq_some_iff.1 hu
            rw [Addr.add_lit]
            simpa using hbk.cell hb
          have hdg := fun wz => digits_any q (by omega) wz
          have HF := Lib.hid hF
          have hii : (i : Int) < kk.length := by omega
          have B0 := Lib.hid (below_drew HBW.out)
          have l0 := (hF _ B0.out).2.1
          have c10 := (hF _ HBW.out).1
          have HX := Lib.hid hx; have HLQ := Lib.hid hlq; have E4 := Lib.hid e4
          clear hF r2 r4 hx hlq e4 e3 hi
          go_wp2_with fail
          obtain ⟨i0, hi0, hz0, hz1, hz2⟩ := info_parts info_u8
          have B0s := (B0.out).size
          go_region_law (first
            | (go_simp; go_at_call 46; refine (hdg _).mono ?_; rintro e4 w4 ⟨rfl, hb4⟩; have B4 := below_trans B0.out hb4 B0s; have k4 := (HF.out _ B4).1; have l4 := (HF.out _ B4).2.1; have how4 := ownsRow_below (w := wr.drew) HRW.out hb4; clear hb4)
            | (refine step_append_src rfl _ _ 69 9 rfl w5.heap.size 5 i0 (.int .u8 0) 1 1 und_bytes hi0 hz0 hz1 hz2 rfl u6 (516 * i) _ rfl how4 _ 4 (cells (be4 q)) rfl (Src.ofString _ und_string ⟨(be4 q).toArray⟩) (by unfold maxLen; omega) (by omega) B4.size ?_; intro v7 w7 how7 hg7 _; have B7 := B4.grown hg7 B4.size (fun g hg => (how4.lt g hg).1); have k7 := (HF.out _ B7).1; have l7 := (HF.out _ B7).2.1; clear hg7)
            | (refine step_append_src rfl _ _ 69 69 rfl w5.heap.size 5 i0 (.int .u8 0) 1 1 und_bytes hi0 hz0 hz1 hz2 rfl v7 (516 * i + 4) _ rfl how7 _ 512 (cells (cur q)) rfl (HF.out _ B7).2.2 (by unfold maxLen; omega) (by omega) B7.size ?_; intro v8 w8 how8 hg8 _; have B8 := B7.grown hg8 B7.size (fun g hg => (how7.lt g hg).1); clear hg8)
            | fail)
          all_goals
            have HW8 : Hid (w8.ownsRow w5.heap.size 5 1 v8 (516 * (i + 1)) (cells (encE (entsOf cur (kk.take (i + 1)))))) := Lib.hid (by
              have htk : kk.take (i + 1) = kk.take i ++ [(q : Int)] := by rw [List.take_add_one, HX.out]; rfl
              have hen : encE (entsOf cur (kk.take (i + 1))) = (encE (entsOf cur (kk.take i)) ++ be4 q) ++ cur q := by
                rw [htk]
                have : entsOf cur (kk.take i ++ [(q : Int)]) = entsOf cur (kk.take i) ++ [(q, cur q)] := by simp [entsOf]
                rw [this, encE_snoc]
              have h := how8
              rw [show 516 * i + 4 + 512 = 516 * (i + 1) by omega, ← cells_append, ← cells_append, ← hen] at h
              exact h)
            have HB8 := Lib.hid B8
            clear how8 how7 how4 B8 B7 B4 k4 l4 k7 l7 l0 c10 hdg
            go_wp2_with fail
            go_round
            case rel => exact ⟨i + 1, by go_num, by omega, HW8, HB8⟩
            case measure => simp [intOf]; omega
        · obtain rfl : i = kk.length := by omega
          have hwu := HRW.out
          rw [List.take_length] at hwu
          obtain ⟨ao6, cap6, hv6⟩ : ∃ ao cap, u6 = .slice ao (516 * kk.length) cap := by
            rcases hwu.2 with ⟨e, e2⟩ | ⟨g, cap, cur, e, _⟩
            · exact ⟨none, 0, by rw [e, e2]⟩
            · exact ⟨_, _, e⟩
          obtain ⟨es, hes⟩ : ∃ es, es = entsOf cur kk := ⟨_, rfl⟩
          have hmem : ∀ x ∈ es, x.1 < 4096 ∧ x.2.length = 512 := by
            intro x hx
            rw [hes] at hx
            obtain ⟨k, hk, rfl⟩ := List.mem_map.1 hx
            obtain ⟨q, e1, e2, _⟩ := HKQ.out ks HKY.out k ((HKM.out k).1 hk)
            have : k.toNat = q := by omega
            have hq4 : q < 4096 := by omega
            exact ⟨by show k.toNat < 4096; omega, by show (cur k.toNat).length = 512; rw [this]; exact (HM.out).len q hq4⟩
          have hel : (encE es).length = 516 * kk.length := by rw [encE_length (fun x hx => (hmem x hx).2), hes]; simp [entsOf]
          have hesl : es.length = kk.length := by rw [hes]; simp [entsOf]
          have HB5x := Lib.hid HB5.out
          have hba := below_trans HB5.out HBW.out HB5.out.size
          have sx : Step (fun _ => false) w T wr T := (Step.refl hf).below hba
          have hIx := HI.out.kept sx (fun _ _ => rfl)
          have hbase : ∀ q : Nat, q < 4096 → cur q = layE es E.K.base q := by
            intro q hq
            rw [hes, layE_ents _ _ _ _ (fun k hk => by obtain ⟨q, e1, _⟩ := HKQ.out ks HKY.out k ((HKM.out k).1 hk); omega)]
            by_cases e : (q : Int) ∈ kk
            · rw [if_pos e]
            · rw [if_neg e]
              refine hIx.pg.2.2.2.1 q hq ?_
              cases hp : pv q with
              | none => rfl
              | some y =>
                exfalso
                apply e
                rw [HKM.out, (HKY.out).2]
                simp [pagesV, hp]
          rw [hv6, ← hes] at hwu
          rw [hv6]
          have HWU := Lib.hid hwu; have HES := Lib.hid hes; have HMEM := Lib.hid hmem; have HEL := Lib.hid hel; have HESL := Lib.hid hesl; have HIX := Lib.hid hIx; have HSX := Lib.hid sx; have HBASE := Lib.hid hbase
          clear hes hmem hel hesl hIx sx hbase hwu hv6 hba HRW HBW hi c1 HI5 HS5 HB5
          have hn1 : ¬ (1048576 : Int) < 516 * kk.length := by omega
          by_cases hk0 : kk.length = 0
          · have hn2 : ¬ (0 : Int) < 516 * kk.length := by omega
            have hkk0 : kk = [] := List.eq_nil_of_length_eq_zero hk0
            have hes0 : es = [] := by rw [HES.out, hkk0]; rfl
            have hcb : ∀ q, q < 4096 → cur q = E.K.base q := fun q hq => by have := HBASE.out q hq; rw [hes0] at this; exact this
            have HC : Hid (ActM wr T E.a E.s E.pm E.gm false ∧ SpaceM wr T E.s E.l E.p E.m (ptr E.a) ∧ FreeM wr T E.gm gone ∧ LogR wr T E.l E.d (f 0).length E.K.recs.length ∧ Fresh wr T ∧ PoolR wr T E.p E.d cur f (E.N + 2 + (tot cur + 1)) ∧ J f ⟨cur, E.K.recs⟩ ∧ Meta cur fl) := Lib.hid (by
              have h := HIX.out
              exact ⟨h.ac, h.sp.sp, h.go, h.sp.lg, HSX.out.fresh, (h.sp.pl.base hcb).monoN (by omega), ⟨h.sp.jj.1, h.sp.jj.2.1, fun q hq => by rw [show (Kept.mk cur E.K.recs).base q = E.K.base q from hcb q hq]; exact h.sp.jj.2.2 q hq⟩, HM.out⟩)
            have HC' : Hid (ActM wr T E.a E.s E.pm E.gm false ∧ SpaceM wr T E.s E.l E.p E.m (ptr E.a) ∧ FreeM wr T E.gm gone ∧ LogR wr T E.l E.d (f 0).length (Kept.mk cur E.K.recs).recs.length ∧ Fresh wr T ∧ PoolR wr T E.p E.d (Kept.mk cur E.K.recs).base f (E.N + 2 + (tot cur + 1)) ∧ J f ⟨cur, E.K.recs⟩ ∧ Meta (Kept.mk cur E.K.recs).base fl) := HC
            clear hkk0 hes0 hcb hk0
            have c0 := HC'.out.1.c0
            have c2 := HC'.out.1.c2
            have j3 := HC'.out.2.1.c3
            have y3 := HC'.out.2.1.z 3
            have hneE : E.a ≠ E.s := ne_of_tag HC'.out.1.1 HC'.out.2.1.1 (by simp)
            have hAw : (wr.drew.setCell ⟨E.s, 3, none⟩ (.map (some E.gm))).heap[E.a]? = some (.cells #[ptr E.s, .map (some E.pm), .map (some E.gm), .bool false] 47 (0, 0)) := (set_other (fun e => hneE e.symm)).trans HC'.out.1.2
            have habort := abort_low E.a E.s #[ptr E.l, ptr E.p, ptr E.a, .map (some E.gm)] (wr.drew.setCell ⟨E.s, 3, none⟩ (.map (some E.gm))) hneE (by rw [cell_at hAw]; rfl) (by rw [cell_at hAw]; rfl) (froz_at hAw) (set_same HC'.out.2.1.2) rfl
            have HAB := Lib.hid habort
            clear hAw habort
            go_wp2_with fail
            go_still_tail 10, (by kernel_rfl)
            change wpList _ _ _ _ _ (World.drew _)
            go_wp2_with fail
            refine HAB.out.mono ?_
            rintro e9 w9 ⟨rfl, rfl⟩
            obtain ⟨hend1, hend2, hend3⟩ := com_end E wr.drew T fl gone (Kept.mk cur E.K.recs) _ (E.N + 2 + (tot cur + 1)) HC'.out.2.2.2.2.1 HC'.out.1 HC'.out.2.1 HC'.out.2.2.1 HC'.out.2.2.2.1 HC'.out.2.2.2.2.2.1 HC'.out.2.2.2.2.2.2.1 HC'.out.2.2.2.2.2.2.2 HG.out
            have HE1 := Lib.hid hend1; have HE2 := Lib.hid hend2; have HE3 := Lib.hid hend3
            clear hend1 hend2 hend3
            go_wp2_with fail
            go_ret
            refine ⟨rfl, T, ⟨⟨cur, E.K.recs⟩, rfl, HE1.out, Nat.le_trans (Nat.le_add_right _ _) (Nat.le_add_right _ _), Nat.le_add_right _ _⟩, HE2.out, ?_⟩
            exact ((HSX.out.mono (fun t ht => by cases ht)).drew).trans (HE3.out.mono (fun t ht => by cases t <;> first | rfl | cases ht))
          · have hn2 : (0 : Int) < 516 * kk.length := by omega
            obtain ⟨n, most, hand, fr, at', nr, hPM, hPD, hPL⟩ := HIX.out.sp.pl
            have hj := HIX.out.sp.jj
            obtain ⟨sv, hsv, hsd, hss⟩ := str_split (encE es)
            have hss2 : sv.size = 516 * kk.length := by rw [hss]; exact HEL.out
            have hconv := run_string_of (P := Try.prog) wr.drew 69 9 5 _ _ und_bytes und_u8 und_string (row_reads (w := wr.drew) HWU.out)
            rw [hsv] at hconv
            have c0 := HIX.out.ac.c0
            have j0 := HIX.out.sp.sp.c0
            have hf0 : (f 0).length = (encR (E.K.recs.map encE)).length := by rw [hj.1]
            have hrl : E.K.recs.length ≤ (encR (E.K.recs.map encE)).length := by
              refine encR_len_le _ _ (by rw [List.length_map]) ?_
              intro x hx
              obtain ⟨es', hes', rfl⟩ := List.mem_map.1 hx
              obtain ⟨a, _, _⟩ := hj.2.1 es' hes'
              cases es' with
              | nil => exact absurd rfl a
              | cons y es' => rw [encE_cons]; simp [be4_length]; omega
            have hlg := HLOG.out
            have hnr := hPL.cnt
            have s0 : Step (fun _ => false) w T wr.drew T := HSX.out.drew
            have hap := log_append E.l E.d (f 0).length E.K.recs.length sv wr.drew T f nr s0.fresh HIX.out.sp.lg hPD (by omega) (by omega) (by omega) (by omega) (by omega)
            have HAP := Lib.hid hap; have HPM := Lib.hid hPM; have HPL := Lib.hid hPL; have HJ := Lib.hid hj; have HSD := Lib.hid hsd; have HSZ := Lib.hid hss2; have HS0 := Lib.hid s0; have HF0 := Lib.hid hf0; have HSV := Lib.hid hsv
            clear hap hPM hPD hPL hj hsd hss hss2 s0 hf0 hrl hlg hnr hsv
            go_wp2_with fail
            go_still_tail 9, (by kernel_rfl)
            change wpList _ _ _ _ _ (World.drew _)
            go_wp2_with fail
            refine HAP.out.mono ?_
            rintro e10 w10 ⟨rfl, T10, hL10, hD10, hS10⟩
            obtain ⟨f1, hf11, hf10, hD1⟩ : ∃ f1, f1 1 = f 1 ∧ f1 0 = f 0 ++ (be4 sv.size ++ sv.data.toList) ∧ DiskR w10 T10 E.d f1 (nr + 2) := ⟨_, upd_other _ _ (by omega), (upd_same _ _ _).trans (wr_log _ _ _), hD10⟩
            have hP10 := PoolR.logged (C := isLogD) (w := wr.drew) n most hand fr at' HPM.out HPL.out hS10 (fun t ht => by cases t <;> first | rfl | cases ht) hD1 hf11 rfl
            rw [HSD.out] at hf10
            have hes2 : sv.size = (encE es).length := by have := HSZ.out; have := HEL.out; omega
            rw [hes2] at hf10
            have hrow10 : w10.ownsRow w5.heap.size 5 1 (.slice ao6 (516 * kk.length) cap6) (516 * kk.length) (cells (encE es)) := by
              refine ownsRow_same (w := wr.drew) HWU.out (fun g hg => ?_)
              have h1 := HWU.out.lt g hg
              have h2 : T g = .none := hf g (by have := HB5x.out.size; omega)
              exact hS10.same g h1.2 (by rw [h2]; rfl)
            have hconv := run_string_of (P := Try.prog) w10.drew 69 9 5 _ _ und_bytes und_u8 und_string (row_reads (w := w10.drew) hrow10)
            rw [HSV.out] at hconv
            have hID := HIX.out.kept ((Step.refl (C := fun _ => false) HSX.out.fresh).drew) (fun _ _ => rfl)
            have hA10 := hID.ac.kept hS10 rfl
            have hM10 := hID.sp.sp.kept hS10 rfl
            have hG10 := hID.go.kept hS10 rfl
            clear hID
            have c0 := hA10.c0
            have hs10 : Step isAll w T w10 T10 := (HS0.out.mono (fun t ht => by cases ht)).trans (hS10.mono (fun t ht => isAll_of t (by cases t <;> first | rfl | cases ht)))
            have hLg : LogR w10 T10 E.l E.d (f1 0).length (E.K.recs.length + 1) := by
              have hL := hL10
              have e : (f 0).length + 4 + sv.size = (f1 0).length := by rw [hf10, List.length_append, List.length_append, be4_length]; omega
              rw [← e]; exact hL
            have hesz : es.length ≤ 2032 := by have := HESL.out; omega
            have hap := space_apply E.s E.p E.d es sv HSD.out HMEM.out (by have := HSZ.out; omega) E.K.base w10.drew T10 f1 (E.N + 2) hs10.drew.fresh hM10.1 hM10.c1 hP10 (by omega)
            have HAP2 := Lib.hid hap; have HA10 := Lib.hid hA10; have HM10 := Lib.hid hM10; have HG10 := Lib.hid hG10; have HS10 := Lib.hid hs10; have HLG := Lib.hid hLg; have HF11 := Lib.hid hf11; have HF10 := Lib.hid hf10
            clear hap hA10 hM10 hG10 hs10 hLg hf11 hf10 hP10 hD1 hD10 hL10 hS10 hrow10 hes2 HAP j0
            go_wp2_with fail
            go_still_tail 6, (by kernel_rfl)
            change wpList _ _ _ _ _ (World.drew _)
            go_wp2_with fail
            refine HAP2.out.mono ?_
            rintro e11 w11 ⟨rfl, T11, ⟨f2, hP11, hW11⟩, hS11⟩
            have hok : RecOk es := by
              refine ⟨?_, by rw [HEL.out]; omega, HMEM.out⟩
              intro e
              have := HESL.out
              rw [e] at this
              exact hk0 this.symm
            have hJ2 : J f2 ⟨cur, E.K.recs ++ [es]⟩ := HJ.out.commit HF11.out HF10.out hW11 hok HBASE.out
            have hll : (encR ((E.K.recs ++ [es]).map encE)).length = (encR (E.K.recs.map encE)).length + 4 + 516 * kk.length := by
              rw [List.map_append, encR_append, List.length_append]
              simp [encR, be4_length, HEL.out]
              omega
            have HLL := Lib.hid hll
            have HC : Hid (ActM w11 T11 E.a E.s E.pm E.gm false ∧ SpaceM w11 T11 E.s E.l E.p E.m (ptr E.a) ∧ FreeM w11 T11 E.gm gone ∧ LogR w11 T11 E.l E.d (f2 0).length (Kept.mk cur (E.K.recs ++ [es])).recs.length ∧ Fresh w11 T11 ∧ PoolR w11 T11 E.p E.d (Kept.mk cur (E.K.recs ++ [es])).base f2 (E.N + 2 + (tot cur + 1)) ∧ J f2 ⟨cur, E.K.recs ++ [es]⟩ ∧ Meta (Kept.mk cur (E.K.recs ++ [es])).base fl) := Lib.hid (by
              have hs := hS11
              refine ⟨ActM.kept (w := w10.drew) HA10.out hs rfl, SpaceM.kept (w := w10.drew) HM10.out hs rfl, FreeM.kept (w := w10.drew) HG10.out hs rfl, ?_, hs.fresh, (hP11.base (base' := cur) HBASE.out).monoN (by have := HESL.out; omega), hJ2, HM.out⟩
              rw [hW11.1]
              have h := LogR.kept (w := w10.drew) HLG.out hs rfl
              rw [show (Kept.mk cur (E.K.recs ++ [es])).recs.length = E.K.recs.length + 1 by simp]
              exact h)
            have HS11 := Lib.hid ((HS10.out.drew).trans (hS11.mono (D := isAll) (fun t ht => isAll_of t (by cases t <;> first | rfl | exact ht))))
            clear hJ2 hP11 hW11 hS11 hok hk0 HAP2 hll c0 hconv
            have c0 := HC.out.1.c0
            have c2 := HC.out.1.c2
            have j3 := HC.out.2.1.c3
            have y3 := HC.out.2.1.z 3
            have hneE : E.a ≠ E.s := ne_of_tag HC.out.1.1 HC.out.2.1.1 (by simp)
            have hAw : (w11.drew.setCell ⟨E.s, 3, none⟩ (.map (some E.gm))).heap[E.a]? = some (.cells #[ptr E.s, .map (some E.pm), .map (some E.gm), .bool false] 47 (0, 0)) := (set_other (fun e => hneE e.symm)).trans HC.out.1.2
            have habort := abort_low E.a E.s #[ptr E.l, ptr E.p, ptr E.a, .map (some E.gm)] (w11.drew.setCell ⟨E.s, 3, none⟩ (.map (some E.gm))) hneE (by rw [cell_at hAw]; rfl) (by rw [cell_at hAw]; rfl) (froz_at hAw) (set_same HC.out.2.1.2) rfl
            have HAB := Lib.hid habort
            clear hAw habort
            go_wp2_with fail
            go_still_tail 10, (by kernel_rfl)
            change wpList _ _ _ _ _ (World.drew _)
            go_wp2_with fail
            refine HAB.out.mono ?_
            rintro e9 w9 ⟨rfl, rfl⟩
            obtain ⟨hend1, hend2, hend3⟩ := com_end E w11.drew T11 fl gone (Kept.mk cur (E.K.recs ++ [es])) _ (E.N + 2 + (tot cur + 1)) HC.out.2.2.2.2.1 HC.out.1 HC.out.2.1 HC.out.2.2.1 HC.out.2.2.2.1 HC.out.2.2.2.2.2.1 HC.out.2.2.2.2.2.2.1 HC.out.2.2.2.2.2.2.2 HG.out
            have HE1 := Lib.hid hend1; have HE2 := Lib.hid hend2; have HE3 := Lib.hid hend3
            clear hend1 hend2 hend3
            go_wp2_with fail
            go_ret
            refine ⟨rfl, T11, ⟨⟨cur, E.K.recs ++ [es]⟩, rfl, HE1.out, ?_, ?_⟩, HE2.out, ?_⟩
            · show (encR ((E.K.recs ++ [es]).map encE)).length ≤ _
              rw [HLL.out]; omega
            · show (E.K.recs ++ [es]).flatten.length ≤ _
              have := HESL.out
              simp; omega
            · exact (HS11.out.drew).trans (HE3.out.mono (fun t ht => by cases t <;> first | rfl | cases ht))
end Go.Proofs.Ytiolpfneppchnaa
