/- The log (layer 3): Open. -/
import Derived.Test.YtiolpfneppchnaaVsLog
namespace Go.Proofs.Ytiolpfneppchnaa
open Go Go.RowKit Go.Vs

/-- records as bytes. -/
def encR (recs : List Bs) : Bs := recs.flatMap fun r => be4 r.length ++ r

theorem encR_cons (r : Bs) (l : List Bs) : encR (r :: l) = be4 r.length ++ (r ++ encR l) := by simp [encR]
theorem encR_append (a b : List Bs) : encR (a ++ b) = encR a ++ encR b := by simp [encR]

theorem encR_len_le : ∀ (l : List Bs) (k : Nat), l.length = k → (∀ x ∈ l, 0 < x.length) → k ≤ (encR l).length
  | [], k, h, _ => by simp at h; omega
  | r :: l, k, h, hp => by
    have := encR_len_le l (k - 1) (by simp at h; omega) (fun x hx => hp x (by simp [hx]))
    rw [encR_cons]
    simp [be4_length]
    omega

theorem und_strs : Try.prog.underlying 38 = some (.slice 9) := by kernel_rfl
theorem info_str : (Try.prog.info? 9).map (fun i => (i.zero, i.size, i.bytes)) = some (some (.string ⟨#[]⟩), 1, 16) := by kernel_rfl

/-- a partial number of bytes. -/
def numK (b : Bs) (k : Nat) : Nat := (b.take k).foldl (fun n c => n * 256 + c.toNat) 0

theorem numK_succ (b : Bs) (k : Nat) (x : UInt8) (h : b[k]? = some x) : numK b (k + 1) = numK b k * 256 + x.toNat := by
  have hk : k < b.length := (List.getElem?_eq_some_iff.1 h).1
  have : b.take (k + 1) = b.take k ++ [x] := by
    rw [List.take_succ_eq_append_getElem hk, (List.getElem?_eq_some_iff.1 h).2]
  simp [numK, this]

theorem numK_lt (b : Bs) : ∀ k, numK b k < 256 ^ k
  | 0 => by simp [numK]
  | k + 1 => by
    have ih := numK_lt b k
    cases h : b[k]? with
    | some x =>
      rw [numK_succ b k x h, Nat.pow_succ]
      have := x.toNat_lt
      omega
    | none =>
      have : b.take (k + 1) = b.take k := by
        have := List.getElem?_eq_none_iff.1 h
        rw [List.take_of_length_le (by omega), List.take_of_length_le (by omega)]
      have e : numK b (k + 1) = numK b k := by simp [numK, this]
      rw [e, Nat.pow_succ]; omega

theorem numK_four (b : Bs) (h : 4 ≤ b.length) : numK b 4 = num4 b := by
  match b, h with
  | x0 :: x1 :: x2 :: x3 :: l, _ => simp [numK, num4]; omega

def lenOf : Value → Nat | .slice _ n _ => n | _ => 0

structure OpenRel (w0 : World) (l d : Nat) (recs : List Bs) (v8 v9 : Value) (k : Nat) (wr : World) : Prop where
  hk : k ≤ recs.length
  out : wr.ownsRow w0.heap.size 9 1 v8 k ((recs.take k).map str)
  rest : SlB wr v9 (encR (recs.drop k))
  restNew : ∀ b, v9.ownBlock = some b → w0.heap.size ≤ b ∧ b ≠ l ∧ (∀ g, v8.ownBlock = some g → g ≠ b)
  log : wr.heap[l]? = some (.cells #[.pointer (some ⟨d, 0, none⟩), .int .i64 (encR (recs.take k)).length, .int .i64 0] 123 (0, 0))
  llo : w0.heap.size ≤ l
  lout : ∀ g, v8.ownBlock = some g → g ≠ l
  below : Below w0.heap.size w0 wr

set_option maxRecDepth 100000 in
set_option maxHeartbeats 400000 in
theorem log_open (d : Nat) (w : World) (T : Tags) (f : Nat → Bs) (nr : Nat) (recs : List Bs) (hf : Fresh w T) (hd : DiskR w T d f nr) (h0 : f 0 = encR recs) (hr : ∀ r ∈ recs, 0 < r.length ∧ r.length ≤ 1048576) :
    Calls Try.prog 36 #[.pointer (some ⟨d, 0, none⟩)] w fun en w' => ∃ l v T', en = .returned (.tuple #[.pointer (some ⟨l, 0, none⟩), v, .int .i64 0]) ∧
      LogR w' T' l d (f 0).length recs.length ∧ DiskR w' T' d f nr ∧ w'.ownsRow w.heap.size 9 1 v recs.length (recs.map str) ∧ Step isLogD w T w' T' ∧ Below w.heap.size w w' ∧ w.heap.size ≤ l ∧ ∀ g, v.ownBlock = some g → T' g = .none := by
  obtain ⟨i0, hi0, hz0, hz1, hz2⟩ := info_parts info_str
  have hlen : (f 0).length ≤ 4194304 := (hd.file (i := 0) (by omega)).elim fun _ h => h.elim fun _ h => h.2.2.2.1
  have hs := disk_size' (I := 0) d 0 (by omega) rfl w T f nr hd
  have hrd := disk_read' (I := 0) (A := 0) (M := (f 0).length) d 0 (by omega) 0 (f 0).length rfl rfl rfl w T f nr hd (by omega)
  have e1 : ((f 0).drop 0).take (f 0).length = f 0 := by simp
  rw [e1] at hrd
  have HS := Lib.hid hs; have HR := Lib.hid hrd; have H0 := Lib.hid h0
  clear hs hrd e1 h0
  go_enter Try.func36, Try.ntmps36
  go_wp2_with fail
  refine HS.out.mono ?_
  rintro e w' ⟨rfl, rfl⟩
  go_wp2_with fail
  refine HR.out.mono ?_
  rintro e w' ⟨rfl, rfl⟩
  go_wp2_with (with_reducible refine hold_convert 9 69 _ rfl ?_)
  unfold Hold
  obtain ⟨lo, hlo⟩ : ∃ o, o = Obj.cells #[Value.pointer (some { block := d, off := 0 }), Value.int IntKind.i64 0, Value.int IntKind.i64 0] 123 := ⟨_, rfl⟩
  rw [← hlo]
  refine wpList_bytes rfl _ _ _ rfl _ und_string und_bytes und_u8 rfl (by rw [str_size]; unfold maxLen; omega) ?_
  intro cap w1 hB hg1 hsz1
  have hlog : w1.heap[w.heap.size]? = some lo := (hg1.block _ (by simp) (by simp)).trans alloc_new
  have hbel : Below w.heap.size w w1 := ((Below.refl _ w).alloc (Nat.le_refl _) lo).grown hg1 (by simp) (by simp)
  rw [hlo] at hlog
  rw [str_data] at hB
  have hw1 : (w.alloc lo).heap.size = w.heap.size + 1 := alloc_size
  rw [hw1] at hB ⊢
  rw [str_size]
  obtain ⟨l, hl⟩ : ∃ l, l = w.heap.size := ⟨_, rfl⟩
  rw [← hl] at hlog hB hbel ⊢
  have HL := Lib.hid hl
  have hrel : OpenRel w l d recs (.slice none 0 0) (.slice (some ⟨l + 1, 0, none⟩) (f 0).length cap) 0 w1 := {
    hk := Nat.zero_le _
    out := World.ownsRow_nil _ _ _ _
    rest := by have := hB.slb; rw [H0.out] at this ⊢; exact this
    restNew := by
      intro b h
      simp only [Value.ownBlock, Option.map_some, Option.some.injEq] at h
      subst h
      exact ⟨by omega, by omega, fun g hg => by simp [Value.ownBlock] at hg⟩
    log := hlog
    llo := by omega
    lout := fun g hg => by simp [Value.ownBlock] at hg
    below := by rw [← hl]; exact hbel }
  have hT1 : Step isLogD w T w1 (T.put l .log) := by
    rw [hl]
    exact ((Step.refl hf).allocTag lo rfl).below (by
      have := hg1
      exact (Below.refl _ _).grown hg1 (Nat.le_refl _) (by simp))
  clear hB hlog hbel hw1 hl hg1 hsz1 hlo
  go_wp2_with fail
  go_loopw [8, 9] (fun u8 u9 wr => ∃ k v8 v9, v8 = u8 ∧ v9 = u9 ∧ OpenRel w l d recs v8 v9 k wr) (fun _ v9 _ => lenOf v9)
  case atStart => exact ⟨0, _, _, rfl, rfl, hrel⟩
  case round =>
    obtain ⟨k, v8, v9, rfl, rfl, R⟩ := hrel
    have hst : Step (fun _ => false) w T wr T := (Step.refl hf).below R.below
    have hdr : DiskR wr T d f nr := hd.kept hst (fun _ _ => rfl)
    obtain ⟨ao, c9, rfl, hc1, hc2, hcs⟩ := R.rest
    by_cases hk : k < recs.length
    · obtain ⟨r, rest', hdrop⟩ : ∃ r rest', recs.drop k = r :: rest' := ⟨recs[k], recs.drop (k + 1), List.drop_eq_getElem_cons hk⟩
      have hmem : r ∈ recs := List.mem_of_mem_drop (i := k) (by rw [hdrop]; exact List.mem_cons_self)
      obtain ⟨hr0, hr1⟩ := hr r hmem
      obtain ⟨bs, hbs⟩ : ∃ bs, bs = encR (recs.drop k) := ⟨_, rfl⟩
      have hbe : bs = be4 r.length ++ (r ++ encR rest') := by rw [hbs, hdrop, encR_cons]
      have R9 : SlB wr (.slice ao bs.length c9) bs := by rw [hbs]; exact R.rest
      have hlen4 : bs.length = 4 + (r.length + (encR rest').length) := by rw [hbe]; simp [be4_length]
      have hbl : bs.length ≤ 4194304 := by
        have h1 : encR recs = encR (recs.take k) ++ bs := by rw [hbs, ← encR_append, List.take_append_drop]
        have h2 : (f 0).length = (encR (recs.take k)).length + bs.length := by rw [H0.out, h1, List.length_append]
        omega
      have hn4 : num4 bs = r.length := by rw [hbe]; exact num4_append _ (by omega) _
      rw [← hbs]
      have h4 : (4 : Int) ≤ bs.length := by omega
      have HBS := Lib.hid hbs; have HBE := Lib.hid hbe; have HDR := Lib.hid hdrop; have HLN := Lib.hid hlen4; have HN4 := Lib.hid hn4
      clear hbs hbe hdrop hlen4 hn4 hcs
      go_wp2_with (with_reducible refine hold_slice _ _ _ _ _ rfl ?_)
      unfold Hold
      refine wpList_cut_hh rfl _ _ _ _ rfl _ und_bytes size_u8 rfl R9 rfl rfl rfl (by omega) (by have := HLN.out; omega) ?_
      intro r4 hr4 _
      obtain ⟨ao4, c4, hr4e, q1, q2, hr4c⟩ := hr4
      have e4 : (bs.take (4 : Int).toNat).length = 4 := by simp; omega
      rw [e4] at hr4e
      obtain ⟨b4, off4, rfl, hc4⟩ : ∃ b off, ao4 = some ⟨b, off, none⟩ ∧ ∀ j x, j < 4 → bs[j]? = some x → wr.cell? ⟨b, off + j, none⟩ = some (.int .u8 x.toNat) := by
        rcases hr4c with ⟨_, _, h⟩ | ⟨b, off, h1, h2⟩
        · rw [h] at e4; simp at e4
        · exact ⟨b, off, h1, fun j x hj hx => h2 j x (by
            rw [List.getElem?_take, if_pos (by simpa using hj)]; exact hx)⟩
      rw [hr4e]
      have HE := Lib.hid hr4e
      clear hr4e hr4c e4 q1 q2
      go_wp2_with fail
      obtain ⟨wo, rfl⟩ : ∃ wo : World, wo = wr := ⟨_, rfl⟩
      have HC4 := Lib.hid hc4
      clear hc4
      go_loop [10, 34] (fun u10 u34 => ∃ j : Nat, j ≤ 4 ∧ u34 = .int .i64 j ∧ u10 = .int .i64 (numK bs j)) (fun _ u34 => 4 - (intOf u34).toNat)
      case atStart => exact ⟨0, by omega, rfl, rfl⟩
      case round =>
        obtain ⟨j, hj4, rfl, rfl⟩ := hrel
        by_cases hj : j < 4
        · obtain ⟨x, hx⟩ : ∃ x, bs[j]? = some x := ⟨_, List.getElem?_eq_getElem (by omega)⟩
          have hcx := HC4.out j x hj hx
          have hnl : (numK bs j : Int) < 16777216 := by
            have h1 := numK_lt bs j
            have h2 : 256 ^ j ≤ 256 ^ 3 := Nat.pow_le_pow_right (by omega) (by omega)
            have h3 : (256 : Nat) ^ 3 = 16777216 := rfl
            omega
          have hor : Hid (bits .or .i64 (wrap64 ((numK bs j : Int) * 256)) (x.toNat : Int) = (numK bs (j + 1) : Int)) := by
            show _ = _
            rw [show wrap64 ((numK bs j : Int) * 256) = (numK bs j : Int) * 256 by unfold wrap64; omega]
            have hxl := x.toNat_lt
            rw [i64_or 8 _ _ (by omega) (by omega) (by omega) (by omega) (by omega) (by omega), numK_succ bs j x hx]
            omega
          clear hx
          obtain ⟨xv, hxv⟩ : ∃ xv : Nat, xv = x.toNat := ⟨_, rfl⟩
          obtain ⟨nv, hnv⟩ : ∃ nv : Nat, nv = numK bs j := ⟨_, rfl⟩
          have hxl : xv < 256 := by rw [hxv]; exact x.toNat_lt
          rw [← hxv] at hcx hor
          rw [← hnv] at hnl hor ⊢
          have HX := Lib.hid hxv; have HNV := Lib.hid hnv
          clear hxv hnv hnl
          go_wp2_with fail
          go_round
          case rel => exact ⟨j + 1, by omega, by go_num, by rw [← hor.out]⟩
          case measure => simp [intOf]; omega
        · obtain rfl : j = 4 := by omega
          have en : numK bs 4 = r.length := by rw [numK_four bs (by omega)]; exact HN4.out
          rw [en]
          clear en
          obtain ⟨nv, hnv⟩ : ∃ nv : Nat, nv = r.length := ⟨_, rfl⟩
          rw [← hnv] at hr0 hr1 ⊢
          have g0 : ((nv : Int) == 0) = false := by simp; omega
          have hfit : (nv : Int) ≤ bs.length - 4 := by have := HLN.out; omega
          have HNV := Lib.hid hnv; have HR1 := Lib.hid hr1
          clear hnv hr1
          go_wp2_with (with_reducible refine hold_slice _ _ _ _ _ rfl ?_)
          unfold Hold
          refine wpList_cut_lhh rfl _ _ _ _ _ rfl _ und_bytes size_u8 rfl R9 rfl rfl rfl rfl (by omega) (by omega) (by omega) ?_
          intro r5 hr5 _
          have er : (bs.drop (4 : Int).toNat).take ((4 + (nv : Int)).toNat - (4 : Int).toNat) = r := by
            have h1 : (4 + (nv : Int)).toNat - (4 : Int).toNat = r.length := by rw [← HNV.out]; omega
            rw [h1, HBE.out]
            simp [be4]
          rw [er] at hr5
          clear er
          go_wp2_with (with_reducible refine hold_convert 69 9 _ rfl ?_)
          unfold Hold
          refine wpList_string rfl _ _ _ rfl _ und_bytes und_u8 und_string rfl hr5 ?_
          obtain ⟨sv, hsv⟩ : ∃ sv : ByteArray, str r = .string sv := ⟨_, rfl⟩
          rw [hsv]
          have HSV := Lib.hid hsv
          clear hsv hr5
          go_wp2_with (at_builtin; refine hold_of ?_)
          unfold Hold
          have hkb : k + 1 ≤ 4194304 := by
            have h1 : k ≤ (encR (recs.take k)).length := encR_len_le (recs.take k) k (by rw [List.length_take]; omega) (fun x hx => (hr x (List.mem_of_mem_take hx)).1)
            have h2 : encR recs = encR (recs.take k) ++ bs := by rw [HBS.out, ← encR_append, List.take_append_drop]
            have h3 : (f 0).length = (encR (recs.take k)).length + bs.length := by rw [H0.out, h2, List.length_append]
            omega
          refine wpList_append_own_at _ rfl _ _ _ rfl w.heap.size 9 i0 _ 1 16 und_strs hi0 hz0 hz1 hz2 rfl (by omega) v8 k _ rfl (R.out.alloc _) _ 1 1 [.string sv] rfl rfl (cell_one_new _ _ _) (by intro u hu; simp at hu; subst hu; rfl) (by unfold maxLen; omega) (by omega) (by have := R.below.size; simp; omega) ?_
          intro v' w2 hown2 hg2 _ hloc
          have hkept : ∀ q, q < wo.heap.size → (∀ g, v8.ownBlock = some g → g ≠ q) → w2.heap[q]? = wo.heap[q]? := by
            intro q hq hne
            refine (hg2.block q (by simp; omega) (fun e => ?_)).trans (alloc_old hq)
            exact hne q e.symm rfl
          have hl2 : w2.heap[l]? = _ := (hkept l (lt_of_at R.log) (R.lout)).trans R.log
          have hbnew : ∀ b, (Value.slice ao bs.length c9).ownBlock = some b → w.heap.size ≤ b ∧ b ≠ l ∧ (∀ g, v8.ownBlock = some g → g ≠ b) ∧ b < wo.heap.size := by
            intro b hv
            have h1 := R.restNew b (by rw [← HBS.out]; exact hv)
            refine ⟨h1.1, h1.2.1, h1.2.2, ?_⟩
            obtain ⟨b', hb', hlt⟩ := R9.lt (by omega)
            rw [hv] at hb'
            cases hb'
            exact hlt
          have R92 : SlB w2 (.slice ao bs.length c9) bs := R9.kept (fun b hv => hkept b (hbnew b hv).2.2.2 (hbnew b hv).2.2.1)
          have k1 : w2.cell? ⟨l, 1, none⟩ = some (.int .i64 (encR (recs.take k)).length) := by rw [cell_at hl2]; rfl
          have z1 : w2.frozen? ⟨l, 1, none⟩ = false := froz_at hl2
          obtain ⟨ev, hev⟩ : ∃ ev : Nat, ev = (encR (recs.take k)).length := ⟨_, rfl⟩
          rw [← hev] at k1 hl2
          have hel : (ev : Int) ≤ 4194304 := by
            have h2 : encR recs = encR (recs.take k) ++ bs := by rw [HBS.out, ← encR_append, List.take_append_drop]
            have h3 : (f 0).length = (encR (recs.take k)).length + bs.length := by rw [H0.out, h2, List.length_append]
            omega
          have HEV := Lib.hid hev; have HL2 := Lib.hid hl2; have HKP := Lib.hid hkept; have HBN := Lib.hid hbnew; have HG2 := Lib.hid hg2; have HLC := Lib.hid hloc; have HO2 := Lib.hid hown2; have HEL := Lib.hid hel
          clear hev hl2 hkept hbnew hg2 hloc hown2 hel
          go_wp2_with (with_reducible refine hold_slice _ _ _ _ _ rfl ?_)
          unfold Hold
          refine wpList_cut_l rfl _ _ _ rfl _ und_bytes size_u8 rfl R92 rfl (by omega) (by omega) ?_
          intro r6 hr6 hbk6
          go_wp2
          have HTK : recs.take (k + 1) = recs.take k ++ [r] := by
            rw [List.take_succ_eq_append_getElem hk]
            have h := List.drop_eq_getElem_cons hk
            rw [HDR.out] at h
            rw [(List.cons.inj h).1]
          have HDK : recs.drop (k + 1) = rest' := by
            have h := List.drop_eq_getElem_cons hk
            rw [HDR.out] at h
            exact (List.cons.inj h).2.symm
          have e6 : bs.drop (4 + (nv : Int)).toNat = encR rest' := by
            have h1 : (4 + (nv : Int)).toNat = 4 + r.length := by rw [← HNV.out]; omega
            rw [h1, HBE.out, ← List.drop_drop, List.drop_left' (be4_length _), List.drop_left]
          rw [e6] at hr6
          have hev' : (ev + 4 + nv : Nat) = (encR (recs.take (k + 1))).length := by
            rw [HTK, encR_append, List.length_append, ← HEV.out, HNV.out]
            simp [encR, be4_length]
            omega
          have hw64 : wrap64 ((ev : Int) + (4 + (nv : Int))) = ((ev + 4 + nv : Nat) : Int) := by
            have := HEL.out
            unfold wrap64; omega
          go_round
          case rel =>
            refine ⟨k + 1, v', r6, rfl, rfl, ?_⟩
            rw [hw64]
            obtain ⟨X, hX⟩ : ∃ X : Value, X = .int .i64 ((ev + 4 + nv : Nat) : Int) := ⟨_, rfl⟩
            rw [← hX]
            have hll : l < wo.heap.size := lt_of_at R.log
            have hvb : ∀ b, b < wo.heap.size → (∀ g, v8.ownBlock = some g → g ≠ b) → ∀ g, v'.ownBlock = some g → g ≠ b := by
              intro b hb hne g hg
              rcases HLC.out with h | h
              · exact hne g (by rw [← h]; exact hg)
              · rw [h] at hg
                simp only [Option.some.injEq, alloc_size] at hg
                omega
            have h8w : ∀ g, v8.ownBlock = some g → w.heap.size ≤ g := by
              intro g hg
              rcases R.out.2 with ⟨rfl, _⟩ | ⟨g', cap', cur, rfl, h1, _⟩
              · simp [Value.ownBlock] at hg
              · simp only [Value.ownBlock, Option.map_some, Option.some.injEq] at hg
                omega
            have b2 : Below w.heap.size w w2 := (R.below.alloc R.below.size _).grown HG2.out (by have := R.below.size; simp; omega) h8w
            have s2 : SlB w2 r6 (encR rest') := hr6
            have own6 : ∀ b, r6.ownBlock = some b → w.heap.size ≤ b ∧ b ≠ l ∧ (∀ g, v8.ownBlock = some g → g ≠ b) ∧ b < wo.heap.size := by
              intro b hb
              rw [hbk6] at hb
              exact HBN.out b hb
            refine {
              hk := hk
              out := ?_
              rest := by rw [HDK]; exact s2.kept (fun b hb => set_other (own6 b hb).2.1.symm)
              restNew := fun b hb => ⟨(own6 b hb).1, (own6 b hb).2.1, hvb b (own6 b hb).2.2.2 (own6 b hb).2.2.1⟩
              log := by
                rw [← hev', set_same HL2.out, hX]
                rfl
              llo := R.llo
              lout := hvb l hll R.lout
              below := b2.setCell R.llo _ }
            have h1 := HO2.out
            rw [← HSV.out, ← List.map_singleton (f := str), ← List.map_append, ← HTK] at h1
            refine h1.kept (row := some l) ⟨rfl, rfl, rfl, by simp [World.setCell], fun k _ hk => set_other (fun e => hk (by rw [e]))⟩ ?_
            refine (Classical.em _).imp id (fun _ => ?_)
            intro e
            exact hvb l hll R.lout l e rfl
          case measure =>
            obtain ⟨ao6, c6, rfl, _⟩ := hr6
            show (encR rest').length < bs.length
            have := HLN.out
            omega
    · have hkk : k = recs.length := by have := R.hk; omega
      subst hkk
      have hlog := R.log
      have hout := R.out
      have hrest0 : (encR (recs.drop recs.length)).length = 0 := by simp [encR]
      rw [hrest0]
      have he : (encR (recs.take recs.length)).length = (f 0).length := by rw [List.take_length, ← H0.out]
      rw [he] at hlog
      rw [List.take_length] at hout
      obtain ⟨a8, c8, hv8⟩ : ∃ ao cap, v8 = .slice ao recs.length cap := by
        rcases hout.2 with ⟨rfl, h0⟩ | ⟨g, cap, cur, rfl, _⟩
        · exact ⟨none, 0, by rw [h0]⟩
        · exact ⟨_, _, rfl⟩
      rw [hv8]
      have c1 : wr.cell? ⟨l, 2, none⟩ = some (.int .i64 0) := by rw [cell_at hlog]; rfl
      have z1 : wr.frozen? ⟨l, 2, none⟩ = false := froz_at hlog
      have c2 : wr.cell? ⟨l, 1, none⟩ = some (.int .i64 (f 0).length) := by rw [cell_at hlog]; rfl
      clear hrest0 he
      have HLG := Lib.hid hlog; have HO := Lib.hid hout; have HV := Lib.hid hv8
      clear hlog hout hv8
      go_wp2
      generalize hV : wr.setCell ⟨l, 2, none⟩ (.int .i64 recs.length) = V
      have hTl : T l = .none := hf l (by rw [HL.out]; exact Nat.le_refl _)
      have sV : Step (fun t => t == .none) w T V T := by rw [← hV]; exact ((Step.refl hf).below R.below).setCell (by rw [hTl]; rfl)
      have gV : V.heap[l]? = some (.cells #[.pointer (some ⟨d, 0, none⟩), .int .i64 (f 0).length, .int .i64 recs.length] 123 (0, 0)) := by rw [← hV]; exact set_same HLG.out
      have oV : V.ownsRow w.heap.size 9 1 (.slice a8 recs.length c8) recs.length (recs.map str) := by
        have h1 := HO.out
        rw [HV.out] at h1
        rw [← hV]
        refine h1.kept (row := some l) ⟨rfl, rfl, rfl, by simp [World.setCell], fun k _ hk => set_other (fun e => hk (by rw [e]))⟩ ?_
        refine (Classical.em _).imp id (fun _ => ?_)
        intro e
        exact R.lout l (by rw [HV.out]; exact e) rfl
      have bV : Below w.heap.size w V := by rw [← hV]; exact R.below.setCell R.llo _
      have hdV : DiskR V T d f nr := hd.kept sV (fun t ht => by cases t <;> first | rfl | cases ht)
      have c2 : V.cell? ⟨l, 1, none⟩ = some (.int .i64 (f 0).length) := by rw [cell_at gV]; rfl
      have HQ : Hid (∀ q, Calls Try.prog 74 #[.pointer (some ⟨d, 0, none⟩), .int .i64 0] (V.drewN q) fun e w' => e = .returned (.int .i64 (f 0).length) ∧ w' = V.drewN q) :=
        fun q => (disk_size' (I := 0) d 0 (by omega) rfl (V.drewN q) T f nr hdV).mono fun _ _ ⟨h1, h2⟩ => ⟨h1, h2.symm⟩
      have GV := Lib.hid gV; have OV := Lib.hid oV; have HVV := Lib.hid hV
      clear gV oV hV hst hdr
      go_quiet ((go_at_call 74; exact Calls.quiet_of_same (HQ.out _)))
      go_wp2
      go_ret3
      have st : Step (fun t => t == .log) w T (V.drewN nq) (T.put l .log) := (((Step.refl hf).below bV).drewN nq).retag (by rw [HL.out]; exact Nat.le_refl _) (lt_of_at GV.out) rfl
      refine ⟨l, .slice a8 recs.length c8, T.put l .log, rfl, ⟨Tags.put_same _ _ _, GV.out⟩, ?_, OV.out, ?_, below_drewN' bV _, by rw [HL.out]; exact Nat.le_refl _, ?_⟩
      rotate_left 2
      · intro g hg
        have h1 : g ≠ l := R.lout g (by rw [HV.out]; exact hg)
        have h2 : w.heap.size ≤ g := by
          rcases OV.out.2 with ⟨e, _⟩ | ⟨g', cap', cur, e, h1, _⟩
          · rw [e] at hg; simp [Value.ownBlock] at hg
          · rw [e] at hg; simp only [Value.ownBlock, Option.map_some, Option.some.injEq] at hg; omega
        rw [Tags.put_other _ _ h1]; exact hf g h2
      · exact hd.kept st (fun t ht => by cases t <;> first | rfl | cases ht)
      · exact st.mono (fun t ht => by rw [beq_iff_eq] at ht; rw [ht]; rfl)
end Go.Proofs.Ytiolpfneppchnaa
