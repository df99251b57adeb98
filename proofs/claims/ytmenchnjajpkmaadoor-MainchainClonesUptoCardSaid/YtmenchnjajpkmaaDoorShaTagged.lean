/- Walks of Tagged, the program's and the reference's. Condition: the texts together, and the name, are of at most 2^40 bytes. -/
import Derived.Test.YtmenchnjajpkmaaDoorShaS
import Derived.Test.YtmenchnjajpkmaaDoorShaText
import Derived.Test.YtmenchnjajpkmaaDoorShaF
import Derived.Test.YtmenchnjajpkmaaDoorStr
import Derived.Test.YtmenchnjajpkmaaDoorRead2
namespace Go.Proofs.YtmenchnjajpkmaaDoor.ShaW
open Go Go.RowKit Mem Sha

theorem flat_le (ls : List (List UInt8)) (n : Nat) : ((ls.take n).flatten).length ≤ (ls.map List.length).sum := by
  rw [List.length_flatten]
  conv => rhs; rw [← List.take_append_drop n ls, List.map_append, List.sum_append]
  omega
theorem flat_succ (ls : List (List UInt8)) (n : Nat) (h : n < ls.length) : (ls.take (n + 1)).flatten = (ls.take n).flatten ++ ls[n] := by
  rw [List.take_add_one, List.getElem?_eq_getElem h, List.flatten_append]
  simp only [Option.toList_some, List.flatten_cons, List.flatten_nil, List.append_nil]
def tagged (s : ByteArray) (ls : List (List UInt8)) : List UInt8 := sha (sha s.data.toList ++ sha s.data.toList ++ ls.flatten)
theorem tagged_length (s : ByteArray) (ls : List (List UInt8)) : (tagged s ls).length = 32 := sha_length _

set_option maxHeartbeats 4000000 in
set_option maxRecDepth 100000 in
theorem tagged_calls (w : World) (s : ByteArray) (va : Value) (ls : List (List UInt8)) (hA : Byts w va ls) (hs : s.size ≤ 1099511627776) (hl : (ls.map List.length).sum ≤ 140737488351232) (hn : ls.length ≤ 1099511627776) (hT : TabB w 1) :
    Calls Tryd.prog 30 #[.string s, va] w fun e w' => e = .returned (.agg ((tagged s ls).map byt).toArray) ∧ Below w.heap.size w w' := by
  obtain ⟨a1, a2, rfl, hka, _⟩ := id hA
  have hg1 : 1 < w.heap.size := (Array.getElem?_eq_some_iff.1 hT.choose_spec.choose_spec).1
  have kc := fun w => Lib.run_convert_string_bytes (P := Tryd.prog) w 9 56 5 s Tryd.underlying9 Tryd.underlying56 Tryd.underlying5
  have HA := Lib.hid hA
  have HT := Lib.hid hT
  have HSUM := Lib.hid hl
  have H0 := Lib.hid (new32 w)
  have HB0 := Lib.hid (show Below w.heap.size w (w.alloc (.cells #[.int .u8 0, .int .u8 0, .int .u8 0, .int .u8 0, .int .u8 0, .int .u8 0, .int .u8 0, .int .u8 0, .int .u8 0, .int .u8 0, .int .u8 0, .int .u8 0, .int .u8 0, .int .u8 0, .int .u8 0, .int .u8 0, .int .u8 0, .int .u8 0, .int .u8 0, .int .u8 0, .int .u8 0, .int .u8 0, .int .u8 0, .int .u8 0, .int .u8 0, .int .u8 0, .int .u8 0, .int .u8 0, .int .u8 0, .int .u8 0, .int .u8 0, .int .u8 0] 24)) from (Below.refl _ _).alloc (Nat.le_refl _) _)
  have hs0 : (w.alloc (.cells #[.int .u8 0, .int .u8 0, .int .u8 0, .int .u8 0, .int .u8 0, .int .u8 0, .int .u8 0, .int .u8 0, .int .u8 0, .int .u8 0, .int .u8 0, .int .u8 0, .int .u8 0, .int .u8 0, .int .u8 0, .int .u8 0, .int .u8 0, .int .u8 0, .int .u8 0, .int .u8 0, .int .u8 0, .int .u8 0, .int .u8 0, .int .u8 0, .int .u8 0, .int .u8 0, .int .u8 0, .int .u8 0, .int .u8 0, .int .u8 0, .int .u8 0, .int .u8 0] 24)).heap.size = w.heap.size + 1 := by simp
  clear hA hT hl
  go_enter Tryd.func30, Tryd.ntmps30
  go_upto_region 1 with fail
  generalize (w.alloc (.cells #[.int .u8 0, .int .u8 0, .int .u8 0, .int .u8 0, .int .u8 0, .int .u8 0, .int .u8 0, .int .u8 0, .int .u8 0, .int .u8 0, .int .u8 0, .int .u8 0, .int .u8 0, .int .u8 0, .int .u8 0, .int .u8 0, .int .u8 0, .int .u8 0, .int .u8 0, .int .u8 0, .int .u8 0, .int .u8 0, .int .u8 0, .int .u8 0, .int .u8 0, .int .u8 0, .int .u8 0, .int .u8 0, .int .u8 0, .int .u8 0, .int .u8 0, .int .u8 0] 24)) = w0 at *
  go_wp2_with fail
  have hsl : s.data.toList.length = s.size := by rw [Array.length_toList]; rfl
  have hb1 := below_bytes w0 5 s
  have hby := byt_bytes (D := Any) w0 5 s (by unfold maxLen; omega) trivial
  rw [hs0] at hby
  refine (of_calls _ Any _ s.data.toList hby (by omega) (HT.out.below (HB0.out.trans (hb1.mono (by omega))))).mono ?_
  rintro e w2 ⟨rfl, hb2⟩
  have hz1 := hb1.size
  have hz2 := hb2.size
  have HB2 := Lib.hid (HB0.out.trans ((hb1.mono (by omega)).trans (hb2.mono (by omega))))
  have HD2 := Lib.hid ((H0.out.below hb1).below hb2)
  have hs2 : w.heap.size < w2.heap.size := by omega
  have hdl : (sha s.data.toList).length = 32 := sha_length _
  have HE := Lib.hid (show tagged s ls = sha (sha s.data.toList ++ sha s.data.toList ++ ls.flatten) from rfl)
  clear hb1 hb2 hby kc H0 HB0 hz1 hz2
  generalize sha s.data.toList = dg at *
  have HN := Lib.hid (new32 w2)
  have HONE := Lib.hid (one_cells dg)
  go_upto_region 2 with (first | (with_reducible refine wpList_store_blk rfl _ _ _ rfl w2.heap.size (dg.map byt) _ rfl _ rfl rfl HN.out (by kernel_rfl) (by simp [hdl]) HONE.out ?_))
  obtain ⟨h3, hm3⟩ := made32 w2 dg
  have hs3 := h3.lt
  have HB3 := Lib.hid (HB2.out.trans (hm3.mono (by omega)))
  have HD3 := Lib.hid (HD2.out.below hm3)
  have H3 := Lib.hid h3
  clear hm3 h3 HN HB2 HD2
  generalize (w2.alloc (.cells #[.int .u8 0, .int .u8 0, .int .u8 0, .int .u8 0, .int .u8 0, .int .u8 0, .int .u8 0, .int .u8 0, .int .u8 0, .int .u8 0, .int .u8 0, .int .u8 0, .int .u8 0, .int .u8 0, .int .u8 0, .int .u8 0, .int .u8 0, .int .u8 0, .int .u8 0, .int .u8 0, .int .u8 0, .int .u8 0, .int .u8 0, .int .u8 0, .int .u8 0, .int .u8 0, .int .u8 0, .int .u8 0, .int .u8 0, .int .u8 0, .int .u8 0, .int .u8 0] 24)).setRow w2.heap.size (dg.map byt).toArray = w3 at *
  generalize w2.heap.size = gd at *
  generalize Value.agg (dg.map byt).toArray = xd at *
  have hsz3 := HB3.out.size
  have HT3 := Lib.hid (HT.out.below HB3.out)
  have HA3 := Lib.hid (HA.out.below HB3.out)
  go_wp2_with fail
  refine (new_from w3).mono ?_
  rintro e w4 ⟨q, rfl, hH, hb⟩
  have HH := Lib.hid hH
  have HB4 := Lib.hid hb
  clear hH hb
  go_wp2_with fail
  refine (write_from w3.heap.size w4 q [] _ dg HH.out ((H3.out.keep HB4.out (by omega)).byt hdl (by unfold maxLen; omega) (by omega)) (by simp; omega) (HT3.out.below HB4.out) (by omega)).mono ?_
  rintro e w5 ⟨rfl, hH, hb⟩
  rw [List.nil_append] at hH
  have HH := Lib.hid hH
  have HB5 := Lib.hid (HB4.out.trans hb)
  clear hH hb HB4
  go_wp2_with fail
  refine (write_from w3.heap.size w5 q dg _ dg HH.out ((H3.out.keep HB5.out (by omega)).byt hdl (by unfold maxLen; omega) (by omega)) (by omega) (HT3.out.below HB5.out) (by omega)).mono ?_
  rintro e w6 ⟨rfl, hH, hb⟩
  have HH := Lib.hid hH
  have HB6 := Lib.hid (HB5.out.trans hb)
  have hdd : (dg ++ dg).length = 64 := by rw [List.length_append, hdl]
  clear hH hb HB5
  go_wp2
  go_loopw [21] (fun i wx => ∃ (n : Nat) (m : List UInt8), n ≤ ls.length ∧ i = .int .i64 n ∧ m = dg ++ dg ++ (ls.take n).flatten ∧ HashFrom w3.heap.size wx q m ∧ Below w3.heap.size w3 wx) (fun i _ => ls.length - (intOf i).toNat)
  case atStart => exact ⟨0, dg ++ dg, by omega, rfl, by simp, HH.out, HB6.out⟩
  case round =>
    obtain ⟨n, m, hn1, rfl, hm, hH, hb⟩ := hrel
    have hfl := flat_le ls n
    have hml : m.length ≤ 140737488351232 + 64 := by rw [hm, List.length_append, hdd]; have := HSUM.out; omega
    have HM := Lib.hid hm
    have HH2 := Lib.hid hH
    have HB := Lib.hid hb
    clear hm hH hb hfl
    by_cases hlt : n < ls.length
    · obtain ⟨pb, po, pc, pe, rfl, hc3, hpB⟩ := HA3.out.cell n hlt
      have hc : wr.cell? ⟨pb, po + n, none⟩ = some (.slice pc (ls[n]).length pe) := by
        rw [World.cell?_of_block (w := w3) (HB.out.block pb (World.block_lt_of_cell? w3 _ hc3))]; exact hc3
      have HQB := Lib.hid ((hpB.lt.mono (E := fun k => k < w3.heap.size) (fun _ _ h => h.1)).keep HB.out)
      clear hc3 hpB
      have hX : dg ++ dg ++ (ls.take (n + 1)).flatten = m ++ ls[n] := by rw [HM.out, flat_succ ls n hlt, ← List.append_assoc]
      have hsum : (m ++ ls[n]).length ≤ 140737488351232 + 64 := by rw [← hX, List.length_append, hdd]; have := flat_le ls (n + 1); have := HSUM.out; omega
      have HX := Lib.hid hX
      rw [List.length_append] at hsum
      clear hX HM
      generalize ls[n] = p at *
      go_wp2_with fail
      refine (write_from w3.heap.size wr q m _ p HH2.out HQB.out (by omega) (HT3.out.below HB.out) (by omega)).mono ?_
      rintro e w7 ⟨rfl, hH, hb⟩
      have HH7 := Lib.hid hH
      have HB7 := Lib.hid (HB.out.trans hb)
      clear hH hb HH2 HB hc
      go_wp2
      go_roundw
      case rel => exact ⟨n + 1, m ++ p, by omega, by go_num, HX.out.symm, HH7.out, HB7.out⟩
      case measure => simp [intOf]; omega
    · obtain rfl : n = ls.length := by omega
      have hE : tagged s ls = sha m := by rw [HE.out, HM.out, List.take_length]
      have HE2 := Lib.hid hE
      clear hE HE HM
      go_wp2_with fail
      refine (sum_calls _ wr q m HH2.out.1 (by omega) (HT3.out.below HB.out)).mono ?_
      rintro e w8 ⟨rfl, hb⟩
      have hsr := HB.out.size
      have HB8 := Lib.hid (HB.out.trans (hb.mono hsr))
      have HBF := Lib.hid (HB3.out.trans (HB8.out.mono hsz3))
      have HDF := Lib.hid (HD3.out.keep HB8.out (by omega))
      rw [← HE2.out]
      clear hb HB HH HH2 HB8 HB6 HE2
      have HML := Lib.hid (tagged_length s ls)
      have HONE := Lib.hid (one_cells (tagged s ls))
      go_wp2_with (with_reducible refine wpList_store_blk rfl _ _ _ rfl w.heap.size ((tagged s ls).map byt) _ rfl _ rfl rfl HDF.out (by kernel_rfl) (by simp [HML.out]) HONE.out ?_)
      exact bodyPost_ret (v := .agg ((tagged s ls).map byt).toArray) (results_cell_row Tryd.results30 _ _ w.heap.size 24 _ (0, 0) _ rfl (HDF.out.row _) Tryd.underlying24 rfl (by kernel_rfl)) rfl ⟨rfl, below_setRow HBF.out (Nat.le_refl _) _⟩

set_option maxHeartbeats 4000000 in
set_option maxRecDepth 100000 in
theorem ref_tagged_calls (w : World) (s : ByteArray) (va : Value) (ls : List (List UInt8)) (hA : Byts w va ls) (hs : s.size ≤ 1099511627776) (hl : (ls.map List.length).sum ≤ 140737488351232) (hn : ls.length ≤ 1099511627776) (hT : TabB w 0) :
    Calls Tryd.prog 20 #[.string s, va] w fun e w' => e = .returned (.agg ((tagged s ls).map byt).toArray) ∧ Below w.heap.size w w' := by
  obtain ⟨a1, a2, rfl, hka, _⟩ := id hA
  have kc := fun w => Lib.run_convert_string_bytes (P := Tryd.prog) w 9 56 5 s Tryd.underlying9 Tryd.underlying56 Tryd.underlying5
  have HA := Lib.hid hA
  have HT := Lib.hid hT
  have HSUM := Lib.hid hl
  have H0 := Lib.hid (new32 w)
  have HB0 := Lib.hid (show Below w.heap.size w (w.alloc (.cells #[.int .u8 0, .int .u8 0, .int .u8 0, .int .u8 0, .int .u8 0, .int .u8 0, .int .u8 0, .int .u8 0, .int .u8 0, .int .u8 0, .int .u8 0, .int .u8 0, .int .u8 0, .int .u8 0, .int .u8 0, .int .u8 0, .int .u8 0, .int .u8 0, .int .u8 0, .int .u8 0, .int .u8 0, .int .u8 0, .int .u8 0, .int .u8 0, .int .u8 0, .int .u8 0, .int .u8 0, .int .u8 0, .int .u8 0, .int .u8 0, .int .u8 0, .int .u8 0] 24)) from (Below.refl _ _).alloc (Nat.le_refl _) _)
  have hs0 : (w.alloc (.cells #[.int .u8 0, .int .u8 0, .int .u8 0, .int .u8 0, .int .u8 0, .int .u8 0, .int .u8 0, .int .u8 0, .int .u8 0, .int .u8 0, .int .u8 0, .int .u8 0, .int .u8 0, .int .u8 0, .int .u8 0, .int .u8 0, .int .u8 0, .int .u8 0, .int .u8 0, .int .u8 0, .int .u8 0, .int .u8 0, .int .u8 0, .int .u8 0, .int .u8 0, .int .u8 0, .int .u8 0, .int .u8 0, .int .u8 0, .int .u8 0, .int .u8 0, .int .u8 0] 24)).heap.size = w.heap.size + 1 := by simp
  clear hA hT hl
  go_enter Tryd.func20, Tryd.ntmps20
  go_upto_region 1 with fail
  generalize (w.alloc (.cells #[.int .u8 0, .int .u8 0, .int .u8 0, .int .u8 0, .int .u8 0, .int .u8 0, .int .u8 0, .int .u8 0, .int .u8 0, .int .u8 0, .int .u8 0, .int .u8 0, .int .u8 0, .int .u8 0, .int .u8 0, .int .u8 0, .int .u8 0, .int .u8 0, .int .u8 0, .int .u8 0, .int .u8 0, .int .u8 0, .int .u8 0, .int .u8 0, .int .u8 0, .int .u8 0, .int .u8 0, .int .u8 0, .int .u8 0, .int .u8 0, .int .u8 0, .int .u8 0] 24)) = w0 at *
  go_wp2_with fail
  have hsl : s.data.toList.length = s.size := by rw [Array.length_toList]; rfl
  have hb1 := below_bytes w0 5 s
  have hby := byt_bytes (D := Any) w0 5 s (by unfold maxLen; omega) trivial
  rw [hs0] at hby
  refine (ref_of_calls _ Any _ s.data.toList hby (by omega) (HT.out.below (HB0.out.trans (hb1.mono (by omega))))).mono ?_
  rintro e w2 ⟨rfl, hb2⟩
  have hz1 := hb1.size
  have hz2 := hb2.size
  have HB2 := Lib.hid (HB0.out.trans ((hb1.mono (by omega)).trans (hb2.mono (by omega))))
  have HD2 := Lib.hid ((H0.out.below hb1).below hb2)
  have hs2 : w.heap.size < w2.heap.size := by omega
  have hdl : (sha s.data.toList).length = 32 := sha_length _
  have HE := Lib.hid (show tagged s ls = sha (sha s.data.toList ++ sha s.data.toList ++ ls.flatten) from rfl)
  clear hb1 hb2 hby kc H0 HB0 hz1 hz2
  generalize sha s.data.toList = dg at *
  go_wp2_with fail
  refine (text_calls w2 dg hdl).mono ?_
  rintro e w3 ⟨ta, tc, rfl, hO, hb⟩
  have HB3 := Lib.hid (HB2.out.trans (hb.mono (by omega)))
  have HD3 := Lib.hid (HD2.out.below hb)
  have HDG := Lib.hid hO.byt.any
  have hs3 : w.heap.size < w3.heap.size := by have := hb.size; omega
  clear hO hb HB2 HD2
  have hO3 : OwnB w3.heap.size 5 (w3.alloc (.cells #[] 5)) (.slice (some ⟨w3.heap.size, 0, none⟩) 0 0) [] := World.ownsRow_lit w3 #[] 0 (Nat.le_refl _) (Nat.zero_le _) rfl
  have H4 : Hid (MacK w.heap.size w (.slice (some ⟨w3.heap.size, 0, none⟩) 0 0) [] (w3.alloc (.cells #[] 5))) := Lib.hid ⟨HB3.out.alloc HB3.out.size _, HD3.out.alloc _, hO3.mono (by omega), by simp; omega⟩
  have HDG4 := Lib.hid (HDG.out.below ((Below.refl _ w3).alloc (Nat.le_refl _) (.cells #[] 5)))
  clear hO3 HD3
  go_wp2_with (at_builtin; refine wpList_append_byt _ rfl (.tmp 12) (.tmp 13) 56 rfl (w.heap.size + 1) 5 elemB _ [] rfl H4.out.2.2.1 (.slice ta 32 tc) dg rfl HDG4.out (by simp; omega) (by have := H4.out.2.2.2; omega) ?_)
  intro va vc w5 o1 o2 o3
  have H5 := Lib.hid (H4.out.grows o1 (Fr.ofGrown o2))
  have hb5 : Below w3.heap.size w3 w5 := ((Below.refl _ w3).alloc (Nat.le_refl _) _).grown o2 (by simp) (fun k hk => by cases hk; exact Nat.le_refl _)
  have HDG5 := Lib.hid (HDG.out.below hb5)
  clear o1 o2 o3 hb5 H4 HDG4 HDG
  go_wp2_with (at_builtin; refine wpList_append_byt _ rfl (.tmp 15) (.tmp 16) 56 rfl (w.heap.size + 1) 5 elemB _ dg rfl H5.out.2.2.1 (.slice ta 32 tc) dg rfl HDG5.out (by omega) (by have := H5.out.2.2.2; omega) ?_)
  intro va2 vc2 w6 o1 o2 o3
  have H6 := Lib.hid (H5.out.grows o1 (Fr.ofGrown o2))
  have hdd : (dg ++ dg).length = 64 := by rw [List.length_append, hdl]
  clear o1 o2 o3 H5 HDG5
  go_wp2
  go_loopw [6, 7] (fun v i wx => ∃ (n : Nat) (m : List UInt8), n ≤ ls.length ∧ i = .int .i64 n ∧ m = dg ++ dg ++ (ls.take n).flatten ∧ MacK w.heap.size w v m wx) (fun _ i _ => ls.length - (intOf i).toNat)
  case atStart => exact ⟨0, dg ++ dg, by omega, rfl, by simp, H6.out⟩
  case round =>
    obtain ⟨n, m, hn1, rfl, hm, hM⟩ := hrel
    obtain ⟨xa, xc, rfl, hxk, _⟩ := id hM.2.2.1.byt
    have hfl := flat_le ls n
    have hml : m.length ≤ 140737488351232 + 64 := by rw [hm, List.length_append, hdd]; have := HSUM.out; omega
    have HM := Lib.hid hm
    have HK := Lib.hid hM
    clear hm hM hfl
    by_cases hlt : n < ls.length
    · obtain ⟨pb, po, pc, pe, rfl, hc3, hpB⟩ := HA.out.cell n hlt
      have hc : wr.cell? ⟨pb, po + n, none⟩ = some (.slice pc (ls[n]).length pe) := by
        rw [World.cell?_of_block (w := w) (HK.out.1.block pb (World.block_lt_of_cell? w _ hc3))]; exact hc3
      have HQB := Lib.hid (hpB.below HK.out.1)
      clear hc3 hpB
      have hX : dg ++ dg ++ (ls.take (n + 1)).flatten = m ++ ls[n] := by rw [HM.out, flat_succ ls n hlt, ← List.append_assoc]
      have hsum : (m ++ ls[n]).length ≤ 140737488351232 + 64 := by rw [← hX, List.length_append, hdd]; have := flat_le ls (n + 1); have := HSUM.out; omega
      have HX := Lib.hid hX
      rw [List.length_append] at hsum
      clear hX HM
      generalize ls[n] = p at *
      go_wp2_with (at_builtin; refine wpList_append_byt _ rfl (.tmp 24) (.tmp 28) 56 rfl (w.heap.size + 1) 5 elemB _ m rfl HK.out.2.2.1 _ p rfl HQB.out (by omega) (by have := HK.out.2.2.2; omega) ?_)
      intro va3 vc3 w7 o1 o2 o3
      have H7 := Lib.hid (HK.out.grows o1 (Fr.ofGrown o2))
      clear o1 o2 o3 HK hc HQB
      go_wp2
      go_roundw
      case rel => exact ⟨n + 1, m ++ p, by omega, by go_num, HX.out.symm, H7.out⟩
      case measure => simp [intOf]; omega
    · obtain rfl : n = ls.length := by omega
      have hE : tagged s ls = sha m := by rw [HE.out, HM.out, List.take_length]
      have HE2 := Lib.hid hE
      clear hE HE HM
      go_wp2_with fail
      refine (ref_of_calls wr _ _ m HK.out.2.2.1.byt.any (by omega) (HT.out.below HK.out.1)).mono ?_
      rintro e w8 ⟨rfl, hb⟩
      have hsr := HK.out.1.size
      have HBF := Lib.hid (HK.out.1.trans (hb.mono hsr))
      have HDF := Lib.hid (HK.out.2.1.below hb)
      rw [← HE2.out]
      clear hb HK H6 HE2
      have HML := Lib.hid (tagged_length s ls)
      have HONE := Lib.hid (one_cells (tagged s ls))
      go_wp2_with (with_reducible refine wpList_store_blk rfl _ _ _ rfl w.heap.size ((tagged s ls).map byt) _ rfl _ rfl rfl HDF.out (by kernel_rfl) (by simp [HML.out]) HONE.out ?_)
      exact bodyPost_ret (v := .agg ((tagged s ls).map byt).toArray) (results_cell_row Tryd.results20 _ _ w.heap.size 24 _ (0, 0) _ rfl (HDF.out.row _) Tryd.underlying24 rfl (by kernel_rfl)) rfl ⟨rfl, below_setRow HBF.out (Nat.le_refl _) _⟩
end Go.Proofs.YtmenchnjajpkmaaDoor.ShaW
