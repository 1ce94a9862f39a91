/- The space (layer 5): Pages, Abort. -/
import Derived.Test.YtiolpfneppchnaaVsHeld
namespace Go.Proofs.Ytiolpfneppchnaa
open Go Go.RowKit Go.Vs



theorem keysOf_setV {free : Int → Bool} {fl : List Nat} (hg : GoneIs free fl) {ks : List Int} (h : KeysOf (setV free) ks) : ∀ x, x ∈ ks ↔ ∃ q : Nat, q ∈ fl ∧ x = q := by
  intro x
  rw [h.2 x, ← hg x]
  unfold setV
  cases free x <;> simp

set_option maxRecDepth 100000 in
set_option maxHeartbeats 800000 in
theorem space_pages (s d N : Nat) (K : Kept) (fl : List Nat) (w : World) (T : Tags) (hf : Fresh w T) (h : SpR w T s d K fl N) (hN : N < 1099511627770) :
    Calls Try.prog 21 #[ptr s] w fun e w' => ∃ (v : Value) (ks : List Int), e = .returned (.tuple #[.int .i64 (tot K.base), v]) ∧ ks.Nodup ∧ (∀ x : Int, x ∈ ks ↔ ∃ q : Nat, q ∈ fl ∧ x = q) ∧ w'.ownsRow w.heap.size 3 1 v ks.length ((sorted ks).map (Value.int .i64)) ∧ (∃ T', (∀ g, v.ownBlock = some g → T' g = .none) ∧ SpR w' T' s d K fl N ∧ Step isSp w T w' T') := by
  obtain ⟨l, p, m, f, free, hI, hM, hG⟩ := h
  have hgv := space_given s p w hI.sp.c1
  have c3 := hI.sp.c3
  have hbn : ∀ ks, KeysOf (setV free) ks → ks.length ≤ 1048576 := by
    intro ks hk
    refine Nat.le_trans (nodup_le hk.1 4096 (fun k hm => ?_)) (by omega)
    obtain ⟨q, hq, e⟩ := (keysOf_setV hG hk k).1 hm
    have := (hM.chain.mem q hq).2
    have := hM.tle
    omega
  have HB := Lib.hid hbn; have HI := Lib.hid hI; have HM := Lib.hid hM; have HG := Lib.hid hG
  clear hbn hI hM hG
  go_enter Try.func21, Try.ntmps21
  go_wp2_with (first | (go_at_call 41; refine hgv.mono ?_; rintro e w' ⟨rfl, rfl⟩) | (with_reducible refine hold_range _ _ rfl ?_))
  unfold Hold
  refine wpList_range_map rfl _ _ rfl _ _ und_bmap m _ rfl HI.out.fr.2 ?_
  intro w2 left hit hks hbl hz
  have HBN : Hid (left.length ≤ 1048576) := Lib.hid (HB.out left hks)
  have HIT := Lib.hid hit; have HKS := Lib.hid hks; have HBL := Lib.hid hbl; have HZ := Lib.hid hz
  clear hit hks hbl hz
  obtain ⟨ri, hri⟩ : ∃ ri, ri = w.heap.size := ⟨_, rfl⟩
  rw [← hri] at HIT HBL HZ ⊢
  have HRI := Lib.hid hri
  clear hri
  go_frame
  go_wp2_with fail
  go_loopg [4, 5] left.length (fun k uo _ wr => ∃ (left' ks : List Int), left'.length = k ∧ Hid (IIter wr ri m (setV free) left') ∧ Hid (wr.ownsRow ri 3 1 uo ks.length (ks.map (Value.int .i64))) ∧ Hid (ks.Nodup ∧ (∀ x, x ∈ ks ↔ x ∈ left ∧ x ∉ left') ∧ ∀ x, x ∈ left' → x ∈ left) ∧ Hid (Below ri w wr) ∧ Hid (∀ g, uo.ownBlock = some g → g ≠ ri) ∧ Hid (ks.length + left'.length = left.length))
  case atStart => exact ⟨left, [], rfl, HIT, Lib.hid (World.ownsRow_nil _ _ _ _), Lib.hid ⟨List.nodup_nil, by simp, fun _ h => h⟩, HBL, Lib.hid (fun g hg => by simp [Value.ownBlock] at hg), Lib.hid (by simp)⟩
  case round =>
    obtain ⟨left', ks, hk, HI', HOW, HKS', HB', HNE, HLEN⟩ := hrel
    go_wp2_with (with_reducible refine hold_next _ rfl ?_)
    unfold Hold
    refine wpList_next_map rfl _ rfl m _ _ left' rfl HI'.out ?_ ?_
    rotate_left
    · intro kx v w3 hmem hfx hit3 ho3 hz3 hos3 htp3 hou3 hen
      have hb3 : Below ri w w3 := ⟨hos3.trans HB'.out.os, htp3.trans HB'.out.tape, hou3.trans HB'.out.output, by rw [hz3]; exact HB'.out.size, fun j hj => (ho3 j (by omega)).trans (HB'.out.block j hj)⟩
      have how3 : w3.ownsRow ri 3 1 _ ks.length (ks.map (Value.int .i64)) := ownsRow_same HOW.out (fun g hg => ho3 g (HNE.out g hg))
      have hmlt : m < ri := by rw [HRI.out]; exact (IMap.lt HI.out.fr.2)
      have hrlt : ri < w3.heap.size := by rw [hz3]; exact HI'.out.lt
      have hlpos := List.length_pos_of_mem hmem
      have HIT3 := Lib.hid hit3; have HB3 := Lib.hid hb3; have HOW3 := Lib.hid how3; have HFX := Lib.hid hfx; have HK := Lib.hid hk; have HMEM := Lib.hid hmem
      clear hit3 ho3 hz3 hos3 htp3 hou3 hb3 how3 hfx hk hmem
      go_frame
      go_wp2_with (at_builtin; refine hold_of ?_)
      unfold Hold
      obtain ⟨i0, hi0, hz0, hz1, hz2⟩ := info_parts info_int
      refine wpList_append_own_at _ rfl _ _ _ rfl ri 3 i0 _ 1 8 und_ints hi0 hz0 hz1 hz2 rfl (by omega) _ ks.length _ rfl (HOW3.out.alloc _) _ 1 1 [.int .i64 kx] rfl rfl (cell_one_new _ _ _) (by intro u hu; simp at hu; subst hu; rfl) (by unfold maxLen; have := HLEN.out; have := HBN.out; omega) (by have := HLEN.out; have := HBN.out; omega) (by have := HB3.out.size; have := HRI.out; simp; omega) ?_
      intro v' w4 hown4 hg4 _ hloc
      have hnd := HI'.out.nodup
      have hm4 : w4.heap[m]? = w3.heap[m]? := (hg4.block m (by simp; omega) (fun e => by have := (HOW3.out.lt m e.symm).1; omega)).trans (alloc_old (by omega))
      have hr4 : w4.heap[ri]? = w3.heap[ri]? := (hg4.block ri (by simp; omega) (fun e => HNE.out ri e.symm rfl)).trans (alloc_old hrlt)
      have hne4 : ∀ g, v'.ownBlock = some g → g ≠ ri := by
        intro g hg
        rcases hloc with h | h
        · exact HNE.out g (h.symm.trans hg)
        · rw [h] at hg
          simp only [Option.some.injEq, alloc_size] at hg
          omega
      have hb4 : Below ri w w4 := (HB3.out.alloc (by have := HB3.out.size; have := HRI.out; omega) _).grown hg4 (by have := HB3.out.size; have := HRI.out; simp; omega) (fun g hg => (HOW3.out.lt g hg).1)
      rw [show ks.map (Value.int .i64) ++ [Value.int .i64 kx] = (ks ++ [kx]).map (Value.int .i64) by simp] at hown4
      have HIT4 := Lib.hid (HIT3.out.kept hr4 hm4); have HB4 := Lib.hid hb4; have HOW4 := Lib.hid hown4; have HNE4 := Lib.hid hne4
      have HN4 : Hid ((ks ++ [kx]).Nodup ∧ (∀ x, x ∈ ks ++ [kx] ↔ x ∈ left ∧ x ∉ left'.erase kx) ∧ ∀ x, x ∈ left'.erase kx → x ∈ left) := Lib.hid (by
        obtain ⟨n1, n2, n3⟩ := HKS'.out
        have hkl := n3 kx HMEM.out
        refine ⟨?_, fun x => ?_, fun x hx => n3 x (List.mem_of_mem_erase hx)⟩
        · rw [List.nodup_append]
          refine ⟨n1, by simp, ?_⟩
          intro a ha b hb e
          simp only [List.mem_singleton] at hb
          have := ((n2 a).1 ha).2
          rw [e, hb] at this
          exact this HMEM.out
        · rw [List.mem_append, List.mem_singleton, n2 x, hnd.mem_erase_iff]
          by_cases e : x = kx
          · subst e; simp [hkl]
          · simp [e])
      have HL4 : Hid ((ks ++ [kx]).length + (left'.erase kx).length = left.length) := Lib.hid (by rw [List.length_append, List.length_erase_of_mem HMEM.out, List.length_singleton]; have := HLEN.out; omega)
      have HLT : Hid ((left'.erase kx).length < gk) := Lib.hid (by rw [List.length_erase_of_mem HMEM.out, ← HK.out]; omega)
      rw [show ks.length + 1 = (ks ++ [kx]).length by simp] at HOW4
      clear hm4 hr4 hne4 hb4 hown4 hg4 hloc hnd hmlt hrlt hlpos
      go_frame
      go_wp2_with fail
      go_roundg (left'.erase kx).length
      case measure => exact HLT.out
      case rel => exact ⟨_, _, rfl, HIT4, HOW4, HN4, HB4, HNE4, HL4⟩
    · intro hl
      have hkeys : KeysOf (setV free) ks := by
        obtain ⟨n1, n2, n3⟩ := HKS'.out
        refine ⟨n1, fun x => ?_⟩
        rw [n2 x, hl, ← HKS.out.2 x]
        simp
      have hkn : ks.length ≤ 1048576 := by have := HLEN.out; have := HBN.out; omega
      have HKY := Lib.hid hkeys
      clear hkeys hl
      have hsort := sort_ints _ ks ri _ HOW.out (by omega)
      have HSO := Lib.hid hsort
      clear hsort
      go_frame
      go_wp2_with fail
      refine HSO.out.mono ?_
      rintro e5 w5 ⟨rfl, how5, hg5⟩
      have hb5 := HB'.out.grown hg5 (by have := HB'.out.size; have := HRI.out; omega) (fun g hg => (HOW.out.lt g hg).1)
      rw [HRI.out] at hb5
      have s5 : Step (fun _ => false) w T w5 T := (Step.refl hf).below hb5
      have hI5 := HI.out.kept s5 (fun _ _ => rfl)
      have hby := space_bytes s p d 0 K.base w5 T f N s5.fresh hI5.sp.1 hI5.sp.c1 hI5.pl (by omega) hN
      have HOW5 := Lib.hid how5; have HI5 := Lib.hid hI5; have HS5 := Lib.hid s5; have HBY := Lib.hid hby
      clear how5 hg5 HSO hI5 s5 hby hb5
      go_wp2_with fail
      refine HBY.out.mono ?_
      rintro e7 w7 ⟨g, cap7, T7, f7, rfl, hB7, hlen7, _, _, hP7, hW7, hS7⟩
      have hsb := hB7.slb
      rw [hlen7] at hsb
      have HI7 := Lib.hid (HI5.out.pool hS7 rfl rfl rfl hP7 hW7); have HS7 := Lib.hid hS7; have HSB := Lib.hid hsb; have HL7 := Lib.hid hlen7
      clear hP7 hW7 hS7 HBY hsb hB7 hlen7
      go_wp2_with (with_reducible refine hold_slice _ _ _ _ _ rfl ?_)
      unfold Hold
      refine wpList_cut_l rfl _ _ _ rfl _ und_bytes size_u8 rfl HSB.out rfl (by omega) (by omega) ?_
      intro r hr _
      have e0 : (K.base 0).drop (0 : Int).toNat = K.base 0 := rfl
      rw [e0] at hr
      have HR := Lib.hid hr
      clear hr e0 HSB
      go_wp2_with (go_at_call 40; refine (number_any _ _ (by rw [HL7.out]; omega) _ HR.out).mono ?_; rintro e w' ⟨rfl, kk, rfl⟩)
      go_ret2
      have sk : Step (fun _ => false) w7 T7 (w7.drewN kk) T7 := (Step.refl HS7.out.fresh).drewN kk
      rw [HRI.out] at HOW5
      have hTv : ∀ g, w.heap.size ≤ g → T g = .none := fun g hg => hf g hg
      refine ⟨_, ks, rfl, HKY.out.1, keysOf_setV HG.out HKY.out, ?_, T7, ?_, ⟨l, p, m, f7, free, HI7.out.kept sk (fun _ _ => rfl), HM.out, HG.out⟩, ?_⟩
      · refine ownsRow_same HOW5.out (fun g hg => ?_)
        have h1 := HOW5.out.lt g hg
        exact HS7.out.same g h1.2 (by rw [hTv g h1.1]; rfl)
      · intro g hg
        have h1 := HOW5.out.lt g hg
        rw [HS7.out.old g h1.2]; exact hTv g h1.1
      · exact ((HS5.out.mono (fun t ht => by cases ht)).trans (HS7.out.mono (isSp_poolB 0))).trans (sk.mono (fun t ht => by cases ht))

/-- what ending an action turns: its own words, and the space's. -/
def isEnd : Tag → Bool
  | .space | .act => true
  | _ => false

set_option maxRecDepth 100000 in
theorem act_abort (E : AEnv) (fl : List Nat) (V : View) (w : World) (T : Tags) (hf : Fresh w T) (h : ActV E w T V) (hM : Meta E.K.base fl) (hG : GoneIs E.free fl) :
    Calls Try.prog 13 #[ptr E.a] w fun e w' => e = .returned (.int .i64 0) ∧ SpR w' T E.s E.d E.K fl E.N ∧ (T E.a = .act ∧ w'.cell? ⟨E.a, 0, none⟩ = some (ptr E.s) ∧ w'.cell? ⟨E.a, 3, none⟩ = some (.bool true)) ∧ Step isEnd w T w' T := by
  obtain ⟨cur, flx, gone, pv, ⟨f, hA⟩, _⟩ := h
  have hgo := act_going E.a E.s false w hA.ac.c0 hA.ac.c3
  have k0 := hA.ac.c0
  have k3 := hA.ac.c3
  have z3 := hA.ac.z 3
  have j2 := hA.sp.sp.c2
  have y2 := hA.sp.sp.z 2
  have hne : E.a ≠ E.s := ne_of_tag hA.ac.1 hA.sp.sp.1 (by simp)
  have h2 : (w.setCell ⟨E.a, 3, none⟩ (.bool true)).cell? ⟨E.s, 2, none⟩ = some (ptr E.a) := by
    rw [cell_at ((set_other hne).trans hA.sp.sp.2)]; rfl
  have y2' : (w.setCell ⟨E.a, 3, none⟩ (.bool true)).frozen? ⟨E.s, 2, none⟩ = false := froz_at ((set_other hne).trans hA.sp.sp.2)
  have j0 : (w.setCell ⟨E.a, 3, none⟩ (.bool true)).cell? ⟨E.a, 0, none⟩ = some (ptr E.s) := by
    rw [cell_at (set_same hA.ac.2)]; rfl
  have s1 : Step isEnd w T (w.setCell ⟨E.a, 3, none⟩ (.bool true)) T := (Step.refl hf).setCell (by rw [hA.ac.1]; rfl)
  have s2 : Step isEnd w T ((w.setCell ⟨E.a, 3, none⟩ (.bool true)).setCell ⟨E.s, 2, none⟩ (.pointer none)) T := s1.setCell (by rw [hA.sp.sp.1]; rfl)
  have hSM : SpaceM ((w.setCell ⟨E.a, 3, none⟩ (.bool true)).setCell ⟨E.s, 2, none⟩ (.pointer none)) T E.s E.l E.p E.m (.pointer none) := ⟨hA.sp.sp.1, set_same ((set_other hne).trans hA.sp.sp.2)⟩
  have hAA : ((w.setCell ⟨E.a, 3, none⟩ (.bool true)).setCell ⟨E.s, 2, none⟩ (.pointer none)).heap[E.a]? = some (.cells #[ptr E.s, .map (some E.pm), .map (some E.gm), .bool true] 47 (0, 0)) := (set_other (fun e => hne e.symm)).trans (set_same hA.ac.2)
  have HS : Hid (SpR ((w.setCell ⟨E.a, 3, none⟩ (.bool true)).setCell ⟨E.s, 2, none⟩ (.pointer none)) T E.s E.d E.K fl E.N) := Lib.hid ⟨E.l, E.p, E.m, f, E.free, ⟨hSM, hA.sp.fr.kept s2 rfl, hA.sp.lg.kept s2 rfl, hA.sp.pl.kept s2 (fun t ht => by cases t <;> first | rfl | cases ht), hA.sp.jj⟩, hM, hG⟩
  have HA : Hid ((T E.a = .act ∧ ((w.setCell ⟨E.a, 3, none⟩ (.bool true)).setCell ⟨E.s, 2, none⟩ (.pointer none)).cell? ⟨E.a, 0, none⟩ = some (ptr E.s) ∧ ((w.setCell ⟨E.a, 3, none⟩ (.bool true)).setCell ⟨E.s, 2, none⟩ (.pointer none)).cell? ⟨E.a, 3, none⟩ = some (.bool true))) := Lib.hid ⟨hA.ac.1, by rw [cell_at hAA]; rfl, by rw [cell_at hAA]; rfl⟩
  have HT := Lib.hid s2
  clear hA s1 s2 hSM hAA hM hG
  go_enter Try.func13, Try.ntmps13
  go_wp2_with (go_at_call 42; refine hgo.mono ?_; rintro e w' ⟨rfl, rfl⟩)
  go_ret
  exact ⟨rfl, HS.out, HA.out, HT.out⟩
end Go.Proofs.Ytiolpfneppchnaa
