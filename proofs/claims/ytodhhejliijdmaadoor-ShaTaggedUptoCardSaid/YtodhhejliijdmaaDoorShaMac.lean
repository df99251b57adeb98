/- Walks of Mac, the program's and the reference's. Condition: the text and the key are of at most 2^47 - 4096 bytes. -/
import Derived.Test.YtodhhejliijdmaaDoorShaS
import Derived.Test.YtodhhejliijdmaaDoorShaText
namespace Go.Proofs.YtodhhejliijdmaaDoor.ShaW
open Go Go.RowKit Mem Sha

/-- the key as it is mixed in -/
def keyed (key : List UInt8) : List UInt8 := (if 64 < key.length then sha key else key) ++ List.replicate (64 - (if 64 < key.length then sha key else key).length) 0
theorem keyed_length (key : List UInt8) : (keyed key).length = 64 := by
  unfold keyed
  split
  · rw [List.length_append, List.length_replicate, sha_length]
  · rw [List.length_append, List.length_replicate]; omega
def padIn (key : List UInt8) : List UInt8 := (keyed key).map (· ^^^ 0x36)
def padOut (key : List UInt8) : List UInt8 := (keyed key).map (· ^^^ 0x5c)
def mac (key text : List UInt8) : List UInt8 := sha (padOut key ++ sha (padIn key ++ text))
theorem mac_length (key text : List UInt8) : (mac key text).length = 32 := sha_length _

/-- what the reference's Mac keeps: its result's block, the key's copy -/
def MacK (B : Nat) (w : World) (v : Value) (q : List UInt8) (wx : World) : Prop :=
  Below B w wx ∧ Blk wx B (List.replicate 32 (.int .u8 0)) 24 ∧ OwnB (B + 1) 5 wx v q ∧ B < wx.heap.size
theorem MacK.grows {B : Nat} {w w1 w2 : World} {q q2 : List UInt8} {v v2 : Value} (h : MacK B w v q w1) (o1 : OwnB (B + 1) 5 w2 v2 q2) (o2 : Fr (fun k => v.ownBlock = some k) w1 w2) : MacK B w v2 q2 w2 := by
  have hne : ∀ k, v.ownBlock = some k → B + 1 ≤ k := fun k hk => (h.2.2.1.lt k hk).1
  exact ⟨h.1.trans (o2.below (Nat.le_of_lt h.2.2.2) (fun k hk => by have := hne k hk; omega)), h.2.1.fr o2 (fun e => by have := hne B e; omega), o1, by have := o2.size; have := h.2.2.2; omega⟩

theorem xor_in (c : UInt8) : bits .xor .u8 (c.toNat : Int) 54 = ((c ^^^ 0x36).toNat : Int) := by
  have h := c.toNat_lt
  show bits .xor .u8 (c.toNat : Int) ((54 : Nat) : Int) = _
  rw [u8_xor_nat _ _ h (by omega), UInt8.toNat_xor]; rfl
theorem xor_out (c : UInt8) : bits .xor .u8 (c.toNat : Int) 92 = ((c ^^^ 0x5c).toNat : Int) := by
  have h := c.toNat_lt
  show bits .xor .u8 (c.toNat : Int) ((92 : Nat) : Int) = _
  rw [u8_xor_nat _ _ h (by omega), UInt8.toNat_xor]; rfl
/-- the reference's Mac, as it makes the two texts: three own slices, apart -/
def Mac3 (B : Nat) (w : World) (s i o : List UInt8) (vs vi vo : Value) (wx : World) : Prop :=
  MacK B w vs s wx ∧ OwnB (B + 1) 5 wx vi i ∧ OwnB (B + 1) 5 wx vo o ∧
  (∀ k, vs.ownBlock = some k → vi.ownBlock ≠ some k ∧ vo.ownBlock ≠ some k) ∧ (∀ k, vi.ownBlock = some k → vo.ownBlock ≠ some k)
theorem Mac3.growsI {B : Nat} {w w1 w2 : World} {s i o i2 : List UInt8} {vs vi vo v2 : Value} (h : Mac3 B w s i o vs vi vo w1) (o1 : OwnB (B + 1) 5 w2 v2 i2) (o2 : Fr (fun k => vi.ownBlock = some k) w1 w2)
    (o3 : v2.ownBlock = vi.ownBlock ∨ (v2.ownBlock = some (w1.heap.size + 1) ∧ w1.heap.size + 1 < w2.heap.size)) : Mac3 B w s i2 o vs v2 vo w2 := by
  obtain ⟨⟨h1, h2, h3, h4⟩, h5, h6, h7, h8⟩ := h
  have hne : ∀ k, vi.ownBlock = some k → B + 1 ≤ k := fun k hk => (h5.lt k hk).1
  refine ⟨⟨h1.trans (o2.below (Nat.le_of_lt h4) (fun k hk => by have := hne k hk; omega)), h2.fr o2 (fun e => by have := hne B e; omega), h3.fr o2 (fun k hk e => (h7 k hk).1 e), by have := o2.size; omega⟩, o1, h6.fr o2 (fun k hk e => h8 k e hk), fun k hk => ⟨fun e => ?_, (h7 k hk).2⟩, fun k hk e => ?_⟩
  · rcases o3 with o3 | o3
    · rw [o3] at e; exact (h7 k hk).1 e
    · rw [o3.1] at e; cases e; have := (h3.lt _ hk).2; omega
  · rcases o3 with o3 | o3
    · rw [o3] at hk; exact h8 k hk e
    · rw [o3.1] at hk; cases hk; have := (h6.lt _ e).2; omega
theorem Mac3.growsO {B : Nat} {w w1 w2 : World} {s i o i2 : List UInt8} {vs vi vo v2 : Value} (h : Mac3 B w s i o vs vi vo w1) (o1 : OwnB (B + 1) 5 w2 v2 i2) (o2 : Fr (fun k => vo.ownBlock = some k) w1 w2)
    (o3 : v2.ownBlock = vo.ownBlock ∨ (v2.ownBlock = some (w1.heap.size + 1) ∧ w1.heap.size + 1 < w2.heap.size)) : Mac3 B w s i i2 vs vi v2 w2 := by
  obtain ⟨⟨h1, h2, h3, h4⟩, h5, h6, h7, h8⟩ := h
  have hne : ∀ k, vo.ownBlock = some k → B + 1 ≤ k := fun k hk => (h6.lt k hk).1
  refine ⟨⟨h1.trans (o2.below (Nat.le_of_lt h4) (fun k hk => by have := hne k hk; omega)), h2.fr o2 (fun e => by have := hne B e; omega), h3.fr o2 (fun k hk e => (h7 k hk).2 e), by have := o2.size; omega⟩, h5.fr o2 (fun k hk e => h8 k hk e), o1, fun k hk => ⟨(h7 k hk).1, fun e => ?_⟩, fun k hk e => ?_⟩
  · rcases o3 with o3 | o3
    · rw [o3] at e; exact (h7 k hk).2 e
    · rw [o3.1] at e; cases e; have := (h3.lt _ hk).2; omega
  · rcases o3 with o3 | o3
    · rw [o3] at e; exact h8 k hk e
    · rw [o3.1] at e; cases e; have := (h5.lt _ hk).2; omega

set_option maxHeartbeats 4000000 in
set_option maxRecDepth 100000 in
theorem ref_mac_calls (w : World) (vk vt : Value) (key text : List UInt8) (hK : Byt Any w vk key) (hX : Byt Any w vt text) (hk : key.length ≤ 140737488351232) (ht : text.length ≤ 140737488351232) (hT : TabB w 0) :
    Calls Tryd.prog 22 #[vk, vt] w fun e w' => e = .returned (.agg ((mac key text).map byt).toArray) ∧ Below w.heap.size w w' := by
  obtain ⟨a, c, rfl, hkk, _⟩ := id hK
  obtain ⟨a2, c2, rfl, hkx, _⟩ := id hX
  have H0 := Lib.hid (new32 w)
  have HT := Lib.hid hT
  have HK := Lib.hid hK
  have HX := Lib.hid hX
  clear hK hX hT
  go_enter Tryd.func22, Tryd.ntmps22
  go_upto_region 1 with fail
  have hb0 : Below w.heap.size w (w.alloc (.cells #[.int .u8 0, .int .u8 0, .int .u8 0, .int .u8 0, .int .u8 0, .int .u8 0, .int .u8 0, .int .u8 0, .int .u8 0, .int .u8 0, .int .u8 0, .int .u8 0, .int .u8 0, .int .u8 0, .int .u8 0, .int .u8 0, .int .u8 0, .int .u8 0, .int .u8 0, .int .u8 0, .int .u8 0, .int .u8 0, .int .u8 0, .int .u8 0, .int .u8 0, .int .u8 0, .int .u8 0, .int .u8 0, .int .u8 0, .int .u8 0, .int .u8 0, .int .u8 0] 24)) := (Below.refl _ _).alloc (Nat.le_refl _) _
  have HB0 := Lib.hid hb0
  clear hb0
  have hlt0 := H0.out.lt
  generalize (w.alloc (.cells #[.int .u8 0, .int .u8 0, .int .u8 0, .int .u8 0, .int .u8 0, .int .u8 0, .int .u8 0, .int .u8 0, .int .u8 0, .int .u8 0, .int .u8 0, .int .u8 0, .int .u8 0, .int .u8 0, .int .u8 0, .int .u8 0, .int .u8 0, .int .u8 0, .int .u8 0, .int .u8 0, .int .u8 0, .int .u8 0, .int .u8 0, .int .u8 0, .int .u8 0, .int .u8 0, .int .u8 0, .int .u8 0, .int .u8 0, .int .u8 0, .int .u8 0, .int .u8 0] 24)) = w0 at *
  have hO0 : OwnB w0.heap.size 5 (w0.alloc (.cells #[] 5)) (.slice (some ⟨w0.heap.size, 0, none⟩) 0 0) [] := World.ownsRow_lit w0 #[] 0 (Nat.le_refl _) (Nat.zero_le _) rfl
  have hO := hO0.mono (show w.heap.size + 1 ≤ w0.heap.size by omega)
  clear hO0
  have H1 : Hid (MacK w.heap.size w (.slice (some ⟨w0.heap.size, 0, none⟩) 0 0) [] (w0.alloc (.cells #[] 5))) := Lib.hid ⟨HB0.out.alloc HB0.out.size _, H0.out.alloc _, hO, by simp; omega⟩
  clear hO H0 HB0
  go_wp2_with (at_builtin; refine wpList_append_byt _ rfl (.tmp 9) (.tmp 10) 22 rfl (w.heap.size + 1) 5 elemB _ [] rfl H1.out.2.2.1 _ key rfl (HK.out.below H1.out.1) (by simp; omega) (by have := H1.out.2.2.2; omega) ?_)
  intro va vc w1 o1 o2 o3
  have H2 := Lib.hid (H1.out.grows o1 (Fr.ofGrown o2))
  clear o1 o2 o3 H1
  go_upto_if 14 with fail
  go_cut [5] (fun v wx => ∃ q, q = (if 64 < key.length then sha key else key) ∧ MacK w.heap.size w v q wx)
  case first =>
    by_cases h64 : 64 < key.length
    · go_wp2_with fail
      refine (ref_of_calls _ _ _ key (HK.out.below H2.out.1) (by omega) (HT.out.below H2.out.1)).mono ?_
      rintro e w2 ⟨rfl, hb2⟩
      have hB2 := Lib.hid (H2.out.1.trans (hb2.mono (by have := H2.out.2.2.2; omega)))
      have hD2 := Lib.hid (H2.out.2.1.below hb2)
      have hl2 : w.heap.size < w2.heap.size := by have := hb2.size; have := H2.out.2.2.2; omega
      clear hb2 H2
      go_wp2_with fail
      refine (text_calls w2 (sha key) (sha_length key)).mono ?_
      rintro e w3 ⟨ta, tc, rfl, hO3, hb3⟩
      have hq : Hid (MacK w.heap.size w (.slice ta 32 tc) (sha key) w3) := Lib.hid ⟨hB2.out.trans (hb3.mono (by omega)), hD2.out.below hb3, hO3.mono (by omega), by have := hb3.size; omega⟩
      clear hB2 hD2 hO3 hb3
      go_wp2_with fail
      go_meet
      case rel => exact ⟨_, by rw [if_pos h64], hq.out⟩
    · go_wp2
      go_meet
      case rel => exact ⟨_, by rw [if_neg h64], H2.out⟩
  case rest =>
    obtain ⟨q, hq, hM⟩ := hcut
    have hql : q.length ≤ 64 := by
      rw [hq]
      split
      · rw [sha_length]; omega
      · omega
    obtain ⟨qa, qc, rfl, _⟩ := id hM.2.2.1.byt
    have HQ := Lib.hid hq
    have HM := Lib.hid hM
    clear hq hM
    go_wp2
    go_loopw [5] (fun v wx => ∃ s : List UInt8, s = q ++ List.replicate (s.length - q.length) 0 ∧ q.length ≤ s.length ∧ s.length ≤ 64 ∧ MacK w.heap.size w v s wx) (fun v _ => 64 - vlen v)
    case atStart => exact ⟨q, by simp, Nat.le_refl _, hql, HM.out⟩
    case round =>
      obtain ⟨s, hs, hs1, hs2, hM⟩ := hrel
      obtain ⟨xa, xc, rfl, _⟩ := id hM.2.2.1.byt
      have HS := Lib.hid hs
      have HM := Lib.hid hM
      clear hs hM
      by_cases hlt : s.length < 64
      · go_wp2_with (at_builtin; refine wpList_append_one _ rfl (.tmp 21) (.tmp 22) 22 rfl (w.heap.size + 1) 5 elemB _ s rfl HM.out.2.2.1 _ 0 rfl rfl (by omega) (by have := HM.out.2.2.2; omega) ?_)
        intro va2 vc2 w2 o1 o2 o3
        have HM2 := Lib.hid (HM.out.grows o1 o2)
        clear o1 o2 o3 HM
        go_wp2
        go_roundw
        case rel =>
          refine ⟨s ++ [0], ?_, by simp; omega, by simp; omega, HM2.out⟩
          conv => lhs; rw [HS.out]
          rw [show (s ++ [(0 : UInt8)]).length - q.length = (s.length - q.length) + 1 from by simp; omega, List.replicate_succ', ← List.append_assoc]
        case measure => simp [vlen]; omega
      · have hsl : s.length = 64 := by omega
        have hsk : s = keyed key := by
          rw [HS.out, hsl]
          unfold keyed
          rw [← HQ.out]
        have HSK := Lib.hid hsk
        have HSL := Lib.hid hsl
        clear hsl hsk
        have h3 : Hid (Mac3 w.heap.size w s [] [] (.slice xa s.length xc) (.slice none 0 0) (.slice none 0 0) wr) := Lib.hid ⟨HM.out, OwnB.nil _ _ _, OwnB.nil _ _ _, fun k _ => ⟨fun e => by (cases e), fun e => by (cases e)⟩, fun k hk => by (cases hk)⟩
        have hs64 : 64 ≤ s.length := by have := HSL.out; omega
        clear HM
        go_wp2
        go_loopw [6, 7, 8] (fun vi vo n wx => ∃ (k : Nat) (i o : List UInt8), k ≤ 64 ∧ n = .int .i64 k ∧ i = (s.take k).map (· ^^^ 0x36) ∧ o = (s.take k).map (· ^^^ 0x5c) ∧ i.length = k ∧ o.length = k ∧ Mac3 w.heap.size w s i o (.slice xa s.length xc) vi vo wx) (fun _ _ n _ => 64 - (intOf n).toNat)
        case atStart => exact ⟨0, [], [], by omega, rfl, rfl, rfl, rfl, rfl, h3.out⟩
        case round =>
          obtain ⟨k, i, o, hk64, rfl, hi, ho, hil, hol, hM⟩ := hrel
          obtain ⟨ia, ic, rfl, _⟩ := id hM.2.1.byt
          obtain ⟨oa, oc, rfl, _⟩ := id hM.2.2.1.byt
          have HI := Lib.hid hi
          have HO := Lib.hid ho
          have HM := Lib.hid hM
          have hi1 : i.length ≤ k := by omega
          have hi2 : k ≤ i.length := by omega
          have ho1 : o.length ≤ k := by omega
          have ho2 : k ≤ o.length := by omega
          clear hi ho hil hol
          by_cases hlt : k < 64
          · obtain ⟨sb, so, rfl, hly⟩ : ∃ sb so, xa = some ⟨sb, so, none⟩ ∧ Lies wr sb so s := by
              obtain ⟨a', c', he, _, hx⟩ := hM.1.2.2.1.byt
              cases he
              rcases hx with hx | ⟨pb, poff, rfl, hd, hly⟩
              · subst hx; simp at hs64
              · exact ⟨pb, poff, rfl, hly⟩
            have c1 := hly k (by omega)
            have hks : k < s.length := by omega
            clear hM
            go_wp2_with (at_builtin; refine wpList_append_one _ rfl (.tmp 28) (.tmp 34) 22 rfl (w.heap.size + 1) 5 elemB _ i rfl HM.out.2.1 _ (s[k]'hks ^^^ 0x36) (xor_in _) rfl (by omega) (by have := HM.out.1.2.2.2; omega) ?_)
            intro va2 vc2 w2 o1 o2 o3
            have HM2 := Lib.hid (HM.out.growsI o1 o2 o3)
            clear o1 o2 o3 HM c1 hly
            have hM := HM2.out
            obtain ⟨a', c', he, _, hx⟩ := hM.1.2.2.1.byt
            have c2 : w2.cell? ⟨sb, so + k, none⟩ = some (.int .u8 ((s[k]'hks).toNat : Int)) := by
              cases he
              rcases hx with hx | ⟨pb, poff, hpa, hd, hly⟩
              · subst hx; simp at hs64
              · cases hpa; exact hly k hks
            clear hM he hx
            go_wp2_with (at_builtin; refine wpList_append_one _ rfl (.tmp 36) (.tmp 42) 22 rfl (w.heap.size + 1) 5 elemB _ o rfl HM2.out.2.2.1 _ (s[k]'hks ^^^ 0x5c) (xor_out _) rfl (by omega) (by have := HM2.out.1.2.2.2; omega) ?_)
            intro va3 vc3 w3 o1 o2 o3
            have HM3 := Lib.hid (HM2.out.growsO o1 o2 o3)
            clear o1 o2 o3 HM2 c2
            go_wp2
            go_roundw
            case rel =>
              refine ⟨k + 1, _, _, by omega, by go_num, ?_, ?_, by simp; omega, by simp; omega, HM3.out⟩
              · rw [HI.out, List.take_add_one, List.getElem?_eq_getElem hks, List.map_append]; rfl
              · rw [HO.out, List.take_add_one, List.getElem?_eq_getElem hks, List.map_append]; rfl
            case measure => simp [intOf]; omega
          · obtain rfl : k = 64 := by omega
            have hts : s.take 64 = s := List.take_of_length_le (by omega)
            have hie : i = padIn key := by rw [HI.out, hts, HSK.out]; rfl
            have hoe : o = padOut key := by rw [HO.out, hts, HSK.out]; rfl
            have HIE := Lib.hid hie
            have HOE := Lib.hid hoe
            clear hie hoe hts hM
            go_wp2_with (at_builtin; refine wpList_append_byt _ rfl (.tmp 44) (.tmp 45) 22 rfl (w.heap.size + 1) 5 elemB _ i rfl HM.out.2.1 _ text rfl (HX.out.below HM.out.1.1) (by omega) (by have := HM.out.1.2.2.2; omega) ?_)
            intro va2 vc2 w2 o1 o2 o3
            have hf := Fr.ofGrown o2
            have hb2 : Below w.heap.size w w2 := HM.out.1.1.trans (hf.below (Nat.le_of_lt HM.out.1.2.2.2) (fun k hk => by have := (HM.out.2.1.lt k hk).1; omega))
            have hd2 : Blk w2 w.heap.size (List.replicate 32 (.int .u8 0)) 24 := HM.out.1.2.1.fr hf (fun e => by have := (HM.out.2.1.lt _ e).1; omega)
            have hv2 : OwnB (w.heap.size + 1) 5 w2 (.slice oa o.length oc) o := HM.out.2.2.1.fr hf (fun k hk e => HM.out.2.2.2.2 k e hk)
            have hlt2 : w.heap.size < w2.heap.size := by have := hf.size; have := HM.out.1.2.2.2; omega
            have hin := o1.byt.any
            have HB2 := Lib.hid hb2
            have HD2 := Lib.hid hd2
            have HV2 := Lib.hid hv2
            have HIN := Lib.hid hin
            clear hf hb2 hd2 hv2 hin o1 o2 o3 HM h3
            go_wp2_with fail
            refine (ref_of_calls _ _ _ (i ++ text) HIN.out (by simp; omega) (HT.out.below HB2.out)).mono ?_
            rintro e w3 ⟨rfl, hb3⟩
            have HB3 := Lib.hid (HB2.out.trans (hb3.mono (by omega)))
            have HD3 := Lib.hid (HD2.out.below hb3)
            have HV3 := Lib.hid (HV2.out.below hb3)
            have hlt3 : w.heap.size < w3.heap.size := by have := hb3.size; omega
            clear hb3 HB2 HD2 HV2 HIN
            go_wp2_with fail
            refine (text_calls w3 _ (sha_length _)).mono ?_
            rintro e w4 ⟨ta, tc, rfl, hO4, hb4⟩
            have HB4 := Lib.hid (HB3.out.trans (hb4.mono (by omega)))
            have HD4 := Lib.hid (HD3.out.below hb4)
            have HV4 := Lib.hid (HV3.out.below hb4)
            have HT4 := Lib.hid hO4.byt.any
            have hlt4 : w.heap.size < w4.heap.size := by have := hb4.size; omega
            have hsl : (sha (i ++ text)).length = 32 := sha_length _
            have HDG := Lib.hid (show sha (padIn key ++ text) = sha (i ++ text) by rw [HIE.out])
            generalize sha (i ++ text) = dg at *
            clear hb4 hO4 HB3 HD3 HV3
            go_wp2_with (at_builtin; refine wpList_append_byt _ rfl (.tmp 47) (.tmp 50) 22 rfl (w.heap.size + 1) 5 elemB _ o rfl HV4.out (.slice ta 32 tc) dg rfl HT4.out (by omega) (by omega) ?_)
            intro va4 vc4 w5 o1 o2 o3
            have hf := Fr.ofGrown o2
            have hb5 : Below w.heap.size w w5 := HB4.out.trans (hf.below (Nat.le_of_lt hlt4) (fun k hk => by have := (HV4.out.lt k hk).1; omega))
            have hd5 : Blk w5 w.heap.size (List.replicate 32 (.int .u8 0)) 24 := HD4.out.fr hf (fun e => by have := (HV4.out.lt _ e).1; omega)
            have hlt5 : w.heap.size < w5.heap.size := by have := hf.size; omega
            have hon := o1.byt.any
            have hol : (o ++ dg).length = o.length + 32 := by rw [List.length_append, hsl]
            have HB5 := Lib.hid hb5
            have HD5 := Lib.hid hd5
            have HON := Lib.hid hon
            have HE := Lib.hid (show mac key text = sha (o ++ dg) by rw [HOE.out, ← HDG.out]; rfl)
            clear hf hb5 hd5 hon o1 o2 o3 HB4 HD4 HV4 HT4 HDG
            generalize o ++ dg = od at *
            go_wp2_with fail
            refine (ref_of_calls _ _ _ od HON.out (by omega) (HT.out.below HB5.out)).mono ?_
            rintro e w6 ⟨rfl, hb6⟩
            have HB6 := Lib.hid (HB5.out.trans (hb6.mono (by omega)))
            have HD6 := Lib.hid (HD5.out.below hb6)
            have hone : ∀ v ∈ (sha od).map byt, v.oneCell' = true := by
              intro v hv; obtain ⟨c, _, rfl⟩ := List.mem_map.1 hv; rfl
            have HONE := Lib.hid hone
            clear hb6 hone HB5 HD5
            go_wp2_with (with_reducible refine wpList_store_blk rfl _ _ _ rfl w.heap.size ((sha od).map byt) _ rfl _ rfl rfl HD6.out (by kernel_rfl) (by simp [sha_length]) HONE.out ?_)
            exact bodyPost_ret (v := .agg ((sha od).map byt).toArray) (results_cell_row Tryd.results22 _ _ w.heap.size 24 _ (0, 0) _ rfl (HD6.out.row _) Tryd.underlying24 rfl (by kernel_rfl)) rfl ⟨by rw [HE.out], below_setRow HB6.out (Nat.le_refl _) _⟩
end Go.Proofs.YtodhhejliijdmaaDoor.ShaW
