/- Rules: Parse of a line that Print wrote. -/
import Derived.Test.YtmmobhmiemmioaaDoorRt
namespace Go.Proofs.YtmmobhmiemmioaaDoor
open Go.RowKit

theorem badP_false {l : List UInt8} (h : badP l = false) : (∃ c t, l = c :: t ∧ c ≠ 47) ∧ (∃ i c, l = i ++ [c] ∧ c ≠ 47) ∧ 10 ∉ l := by
  unfold badP at h
  simp only [Bool.or_eq_false_iff] at h
  obtain ⟨⟨⟨h1, h2⟩, h3⟩, h4⟩ := h
  have hne : l ≠ [] := by simpa using h1
  refine ⟨?_, ?_, ?_⟩
  · rcases l with _ | ⟨c, t⟩
    · exact absurd rfl hne
    · exact ⟨c, t, rfl, by simpa using h2⟩
  · refine ⟨l.dropLast, l.getLast hne, (List.dropLast_concat_getLast hne).symm, ?_⟩
    rw [List.getLastD_eq_getLast?, List.getLast?_eq_some_getLast hne] at h3
    simpa using h3
  · intro hm
    have h5 : ¬ 0 ≤ Lib.indexByte l 10 := by simpa using h4
    have h6 := Lib.indexByte_ge l 10
    have h7 : Lib.indexByte l 10 = -1 := by omega
    obtain ⟨k, hk⟩ := List.mem_iff_getElem?.1 hm
    exact Lib.indexByte_none h7 k hk
theorem cut_pre (a : Bool) (X : List UInt8) (h : ∃ c t, X = c :: t ∧ c ≠ 47) :
    Lib.trimPrefix ((if a then [47] else []) ++ X) [47] = X ∧ Lib.hasPrefix ((if a then [47] else []) ++ X) [47] = a := by
  obtain ⟨c, t, rfl, hc⟩ := h
  cases a
  · have : Lib.hasPrefix (c :: t) [47] = false := by
      unfold Lib.hasPrefix
      show (47 == c && _) = false
      rw [show ((47 : UInt8) == c) = false by simpa using Ne.symm hc]; rfl
    refine ⟨?_, this⟩
    show Lib.trimPrefix (c :: t) [47] = _
    unfold Lib.trimPrefix
    rw [this]; rfl
  · have : Lib.hasPrefix (47 :: c :: t) [47] = true := rfl
    refine ⟨?_, this⟩
    show Lib.trimPrefix (47 :: c :: t) [47] = _
    unfold Lib.trimPrefix
    rw [this]; rfl
theorem cut_suf (a : Bool) (X : List UInt8) (h : ∃ i c, X = i ++ [c] ∧ c ≠ 47) :
    Lib.trimSuffix (X ++ (if a then [47] else [])) [47] = X ∧ Lib.hasSuffix (X ++ (if a then [47] else [])) [47] = a := by
  obtain ⟨i, c, rfl, hc⟩ := h
  cases a
  · have : Lib.hasSuffix (i ++ [c]) [47] = false := by
      unfold Lib.hasSuffix List.isSuffixOf
      rw [List.reverse_append]
      show (47 == c && _) = false
      rw [show ((47 : UInt8) == c) = false by simpa using Ne.symm hc]; rfl
    simp only [Bool.false_eq_true, if_false, List.append_nil]
    refine ⟨?_, this⟩
    unfold Lib.trimSuffix
    rw [this]; rfl
  · have : Lib.hasSuffix (i ++ [c] ++ [47]) [47] = true := by
      unfold Lib.hasSuffix List.isSuffixOf
      rw [List.reverse_append]
      show (47 == 47 && _) = true
      rfl
    simp only [if_true]
    refine ⟨?_, this⟩
    unfold Lib.trimSuffix
    rw [this, if_pos rfl, List.length_append, List.length_singleton, Nat.add_sub_cancel, List.take_left]
theorem results_cell2 {P : Program} {fn : Func} {p u : Tmp} {ty : TypeId} (h : fn.results = #[.cell p ty, .tmp u]) (tmps : Array Value) (w : World) (g : Nat) (t : TypeId) (cs : Array Value) (fr : Nat × Nat) (d : TypeDesc)
    (hp : tmps.getD p undef = .pointer (some ⟨g, 0, none⟩)) (hg : w.heap[g]? = some (.cells cs t fr))
    (hu : P.underlying ty = some d) (hd : (match d with | .struct _ | .array _ _ => true | _ => false) = true) (hi : (P.info? ty).map (·.size) = some cs.size) :
    (results fn tmps).run P w = .ok (.tuple #[.agg cs, tmps.getD u undef]) w := by
  have hp' : tmps[p]?.getD undef = .pointer (some ⟨g, 0, none⟩) := by simpa using hp
  simp [results, h, hp', asAddr, run_loadVar_row w g t ty cs fr d hg hu hd hi]
theorem act_sgn {a : Int} (h : a = 1 ∨ a = 2 ∨ a = 3 ∨ a = 4) : actR (sgnR a).toNat.toUInt8 = a := by
  rcases h with rfl | rfl | rfl | rfl <;> rfl

theorem cs_one (r : R) : ∀ v ∈ r.cs, v.oneCell' = true := by
  intro v hv
  simp only [R.cs, List.mem_cons, List.not_mem_nil, or_false] at hv
  rcases hv with rfl | rfl | rfl | rfl <;> rfl
theorem four_one (a : Int) (p : ByteArray) (d c : Bool) : (#[Value.int .i64 a, .string p, .bool d, .bool c] : Array Value).all (·.oneCell') = true := all_oneCell_toArray (cs_one ⟨a, p, d, c⟩)
set_option maxHeartbeats 4000000 in
theorem prs_spec (r : R) (w : World) (h0 : chkR r = 0) :
    Calls Tryd.prog 22 #[.string (mkB (prL r))] w fun e w' => e = .returned (.tuple #[.agg r.cs.toArray, .int .i64 0]) ∧ Fr (fun _ => False) w w' := by
  obtain ⟨hbad, hsz⟩ := chkS_good h0
  obtain ⟨hb1, hb2, _⟩ := badP_false hbad
  have hact := chkS_act h0
  have HC := Lib.hid (fun wx => chk_spec r.act r.pat r.dir r.anc wx (by omega))
  rw [show chkS r.act r.pat = 0 from h0] at HC
  obtain ⟨ln, hln⟩ : ∃ ln, ln = mkB (prL r) := ⟨_, rfl⟩
  have hs : ln.size = (prL r).length := by rw [hln]; rfl
  have hdata : ln.data.toList = prL r := by rw [hln]; rfl
  have h2 : 2 ≤ ln.size := by rw [hs]; unfold prL; simp
  have hle : ln.size ≤ 104 := by rw [hs]; exact prL_len h0
  have hh0 : 0 < ln.size := by omega
  have hh1 : 1 < ln.size := by omega
  have k0 : ln[0]'hh0 = (sgnR r.act).toNat.toUInt8 := get_of (by rw [hdata]; rfl) hh0
  have k1 : ln[1]'hh1 = 32 := get_of (by rw [hdata]; rfl) hh1
  have HA : Hid (∀ wx, Calls Tryd.prog 30 #[.int .u8 ((ln[0]'hh0).toNat : Int)] wx fun e w' => e = .returned (.int .i64 r.act) ∧ wx = w') := Lib.hid (fun wx => by
    have := act_spec (ln[0]'hh0) wx
    rw [show actR (ln[0]'hh0) = r.act by rw [k0]; exact act_sgn hact] at this
    exact this)
  have b1 : (((ln[1]'hh1).toNat : Int) == 32) = true := by rw [k1]; rfl
  have hrest : (ln.extract 2 ln.size).data.toList = (if r.anc then [47] else []) ++ (r.pat.data.toList ++ (if r.dir then [47] else [])) := by
    rw [Lib.extract_data, hdata, hs]
    unfold prL
    rw [List.append_assoc]
    show List.take _ _ = _
    refine List.take_of_length_le ?_
    simp only [List.drop_succ_cons, List.drop_zero, List.length_cons]
    omega
  obtain ⟨c, t, ht, hc⟩ := hb1
  obtain ⟨u1, u2⟩ := cut_pre r.anc (r.pat.data.toList ++ (if r.dir then [47] else [])) ⟨c, t ++ _, by rw [ht]; rfl, hc⟩
  obtain ⟨v1, v2⟩ := cut_suf r.dir r.pat.data.toList hb2
  have HP : Hid (∀ wx, Calls Tryd.prog 31 #[.string (ln.extract 2 ln.size), .string ⟨#[47]⟩] wx fun e w' => e = .returned (.tuple #[.string (mkB (r.pat.data.toList ++ (if r.dir then [47] else []))), .bool r.anc]) ∧ w' = wx) := Lib.hid (fun wx => by
    have := Tryd.strings_CutPrefix (ln.extract 2 ln.size) ⟨#[47]⟩ wx
    rw [hrest, show (⟨#[47]⟩ : ByteArray).data.toList = [47] from rfl, u1, u2] at this
    exact this)
  have HQ : Hid (∀ wx, Calls Tryd.prog 32 #[.string (mkB (r.pat.data.toList ++ (if r.dir then [47] else []))), .string ⟨#[47]⟩] wx fun e w' => e = .returned (.tuple #[.string r.pat, .bool r.dir]) ∧ w' = wx) := Lib.hid (fun wx => by
    have hms : (mkB (r.pat.data.toList ++ (if r.dir then [47] else []))).size ≤ 9223372036854775807 := by
      show (r.pat.data.toList ++ (if r.dir then [47] else [])).length ≤ _
      rw [List.length_append, ← size_len]
      have : (if r.dir = true then [(47 : UInt8)] else []).length ≤ 1 := by split <;> simp
      omega
    have := Tryd.strings_CutSuffix (mkB (r.pat.data.toList ++ (if r.dir then [47] else []))) ⟨#[47]⟩ wx hms
    rw [mkB_data, show (⟨#[47]⟩ : ByteArray).data.toList = [47] from rfl, v1, v2] at this
    rw [show (⟨r.pat.data.toList.toArray⟩ : ByteArray) = r.pat from ba_of rfl] at this
    exact this)
  have a1 : (r.act == 0) = false := by rcases hact with h | h | h | h <;> rw [h] <;> rfl
  have a2 : ¬ r.act = 0 := by simpa using a1
  have l1 : (2 : Int) ≤ (ln.size : Int) := by omega
  have l2 : (ln.size : Int) ≤ 104 := by omega
  have l3 : decide ((ln.size : Int) < 2) = false := by simp; omega
  have l4 : ¬ (ln.size : Int) < 2 := by omega
  have HB1 := Lib.hid (show Blk ((w.alloc (.cells #[.int .i64 0, .string ⟨#[]⟩, .bool false, .bool false] 36)).alloc (.cells #[.int .i64 r.act, .string r.pat, .bool r.dir, .bool r.anc] 36)) (w.heap.size + 1) 36 #[.int .i64 r.act, .string r.pat, .bool r.dir, .bool r.anc] by
    have := Blk.new (w.alloc (.cells #[.int .i64 0, .string ⟨#[]⟩, .bool false, .bool false] 36)) 36 #[.int .i64 r.act, .string r.pat, .bool r.dir, .bool r.anc]
    rwa [show (w.alloc (.cells #[.int .i64 0, .string ⟨#[]⟩, .bool false, .bool false] 36)).heap.size = w.heap.size + 1 by simp] at this)
  rw [← hln]
  generalize mkB (r.pat.data.toList ++ (if r.dir then [47] else [])) = mid at HP HQ
  rcases r with ⟨ra, rp, rd, rc⟩
  show Calls _ _ _ _ fun e w' => e = .returned (.tuple #[.agg #[.int .i64 ra, .string rp, .bool rd, .bool rc], .int .i64 0]) ∧ Fr (fun _ => False) w w'
  simp only at *
  clear hbad hsz hb2 hact hln hs hdata h2 hle k0 k1 hrest u1 u2 v1 v2 ht hc h0
  go_enter Tryd.func22, Tryd.ntmps22
  go_wp2_with (first
    | (go_at_call 30; (refine (HA.out _).mono ?_); rintro e w2 ⟨rfl, rfl⟩)
    | (go_at_call 31; (refine (HP.out _).mono ?_); rintro e w2 ⟨rfl, rfl⟩)
    | (go_at_call 32; (refine (HQ.out _).mono ?_); rintro e w2 ⟨rfl, rfl⟩)
    | (go_at_call 14; (refine (HC.out _).mono ?_); rintro e w3 ⟨rfl, hf⟩; have HF := Lib.hid ((((Fr.refl (fun _ => False) w).alloc _).alloc _).trans hf (fun _ _ h => h)); have hb1 := HB1.out.fr hf (fun h => h); have HB0 := Lib.hid (((Blk.new w 36 _).alloc _).fr hf (fun h => h)); have c0 := hb1.cell 0 rfl; have c1 := hb1.cell 1 rfl; have c2 := hb1.cell 2 rfl; have c3 := hb1.cell 3 rfl; clear hf hb1)
    | (refine wpList_store_row rfl 36 _ _ rfl w.heap.size #[.int .i64 ra, .string rp, .bool rd, .bool rc] rfl rfl 36 _ HB0.out Tryd.size36 rfl (four_one _ _ _ _) ?_)
    | fail)
  refine bodyPost_ret (results_cell2 rfl _ _ w.heap.size 36 #[.int .i64 ra, .string rp, .bool rd, .bool rc] (0, 0) _ rfl (HB0.out.setRow _) Tryd.underlying36 rfl Tryd.size36) rfl ⟨rfl, HF.out.trans (fr_setRow _ _ _) (fun i hi e => (by subst e; exact absurd hi (Nat.lt_irrefl _)))⟩
end Go.Proofs.YtmmobhmiemmioaaDoor
