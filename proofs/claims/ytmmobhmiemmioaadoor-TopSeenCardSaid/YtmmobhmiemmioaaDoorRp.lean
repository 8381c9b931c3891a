/- Rules: Print, Text. -/
import Derived.Test.YtmmobhmiemmioaaDoorRr
namespace Go.Proofs.YtmmobhmiemmioaaDoor
open Go.RowKit

def prL (r : R) : List UInt8 := (sgnR r.act).toNat.toUInt8 :: 32 :: ((if r.anc then [47] else []) ++ r.pat.data.toList ++ (if r.dir then [47] else []))
def txL (L : List R) : List UInt8 := L.flatMap fun r => prL r ++ [10]
theorem chkS_act {a : Int} {p : ByteArray} (h : chkS a p = 0) : a = 1 ∨ a = 2 ∨ a = 3 ∨ a = 4 := by
  have h2 : sgnR a ≠ 0 := fun e => by unfold chkS at h; rw [if_pos e] at h; cases h
  unfold sgnR at h2
  by_cases h1 : a = 1; · exact Or.inl h1
  by_cases h2' : a = 2; · exact Or.inr (Or.inl h2')
  by_cases h3 : a = 3; · exact Or.inr (Or.inr (Or.inl h3))
  by_cases h4 : a = 4; · exact Or.inr (Or.inr (Or.inr h4))
  rw [if_neg h1, if_neg h2', if_neg h3, if_neg h4] at h2; exact absurd rfl h2
theorem chkS_good {a : Int} {p : ByteArray} (h : chkS a p = 0) : badP p.data.toList = false ∧ p.size ≤ 100 := by
  unfold chkS at h
  split at h
  · cases h
  · split at h
    · cases h
    · rename_i h1 h2
      refine ⟨by simpa using h2, ?_⟩
      unfold gckS at h
      split at h
      · cases h
      · rename_i h3; rw [size_len]; omega
theorem ba_of {a b : ByteArray} (h : a.data.toList = b.data.toList) : a = b := by
  rcases a with ⟨⟨x⟩⟩; rcases b with ⟨⟨y⟩⟩
  have : x = y := h
  subst this; rfl

set_option maxHeartbeats 4000000 in
theorem prt_spec (r : R) (w : World) (hp : r.pat.size ≤ 9223372036854775807) (h0 : chkR r = 0) :
    Calls Tryd.prog 20 #[.agg #[.int .i64 r.act, .string r.pat, .bool r.dir, .bool r.anc]] w fun e w' => e = .returned (.tuple #[.string (mkB (prL r)), .int .i64 0]) ∧ Fr (fun _ => False) w w' := by
  have HC := Lib.hid (fun wx => chk_spec r.act r.pat r.dir r.anc wx hp)
  have h0' : chkS r.act r.pat = 0 := h0
  rw [h0'] at HC
  have hsz : (r.pat.size : Int) ≤ 100 := by have := (chkS_good h0').2; omega
  have HS := Lib.hid (fun a wx => sgn_spec a wx)
  have hact := chkS_act h0'
  rcases r with ⟨ra, rp, rd, rc⟩
  have HFA := Lib.hid (fun o => (Fr.refl (fun _ => False) w).alloc o)
  simp only at *
  clear h0 h0' hp
  obtain ⟨s, hs, hact2⟩ : ∃ s : ByteArray, s = mkB (prL ⟨ra, rp, rd, rc⟩) ∧ True := ⟨_, rfl, trivial⟩
  have HSE := Lib.hid hs
  rw [← hs]
  clear hs hact2
  have hn : rp.size ≤ 100 := by omega
  rcases hact with rfl | rfl | rfl | rfl
  · have hz : (Utf8.encode 43).size = 1 := by decide
    have q0 : ¬ 9223372036854775807 < (Utf8.encode 43).size + 1 := by omega
    have q1 : ¬ 9223372036854775807 < (Utf8.encode 43).size + 1 + 1 := by omega
    have q2 : ¬ 9223372036854775807 < (Utf8.encode 43).size + 1 + rp.size := by omega
    have q3 : ¬ 9223372036854775807 < (Utf8.encode 43).size + 1 + 1 + rp.size := by omega
    have q4 : ¬ 9223372036854775807 < (Utf8.encode 43).size + 1 + rp.size + 1 := by omega
    have q5 : ¬ 9223372036854775807 < (Utf8.encode 43).size + 1 + 1 + rp.size + 1 := by omega
    have he43 : Utf8.encode 43 = ⟨#[43]⟩ := by decide
    have HU := Lib.hid he43
    clear hz hn he43
    rcases rd with _ | _ <;> rcases rc with _ | _
    all_goals
      go_enter Tryd.func20, Tryd.ntmps20
      go_wp2_with (first
        | (go_at_call 14; (refine (HC.out _).mono ?_); rintro e w2 ⟨rfl, hf⟩; have HF2 := Lib.hid ((HFA.out _).trans hf (fun _ _ h => h)); have hb3 := (Blk.new w 36 _).fr hf (fun h => h); have c0 := hb3.cell 0 rfl; have c1 := hb3.cell 1 rfl; have c2 := hb3.cell 2 rfl; have c3 := hb3.cell 3 rfl; clear hf hb3)
        | (go_at_call 23; (refine (HS.out _ _).mono ?_); rintro e w3 ⟨rfl, rfl⟩; simp only [sgnR])
        | fail)
      go_ret2
      have he := HSE.out
      subst he
      refine ⟨?_, HF2.out⟩
      have hu := HU.out
      rw [hu]
      refine congrArg Ending.returned (congrArg Value.tuple ?_)
      refine congrArg (fun z => #[Value.string z, Value.int .i64 0]) (ba_of ?_)
      simp [prL, mkB, sgnR]
  · have hz : (Utf8.encode 45).size = 1 := by decide
    have q0 : ¬ 9223372036854775807 < (Utf8.encode 45).size + 1 := by omega
    have q1 : ¬ 9223372036854775807 < (Utf8.encode 45).size + 1 + 1 := by omega
    have q2 : ¬ 9223372036854775807 < (Utf8.encode 45).size + 1 + rp.size := by omega
    have q3 : ¬ 9223372036854775807 < (Utf8.encode 45).size + 1 + 1 + rp.size := by omega
    have q4 : ¬ 9223372036854775807 < (Utf8.encode 45).size + 1 + rp.size + 1 := by omega
    have q5 : ¬ 9223372036854775807 < (Utf8.encode 45).size + 1 + 1 + rp.size + 1 := by omega
    have he43 : Utf8.encode 45 = ⟨#[45]⟩ := by decide
    have HU := Lib.hid he43
    clear hz hn he43
    rcases rd with _ | _ <;> rcases rc with _ | _
    all_goals
      go_enter Tryd.func20, Tryd.ntmps20
      go_wp2_with (first
        | (go_at_call 14; (refine (HC.out _).mono ?_); rintro e w2 ⟨rfl, hf⟩; have HF2 := Lib.hid ((HFA.out _).trans hf (fun _ _ h => h)); have hb3 := (Blk.new w 36 _).fr hf (fun h => h); have c0 := hb3.cell 0 rfl; have c1 := hb3.cell 1 rfl; have c2 := hb3.cell 2 rfl; have c3 := hb3.cell 3 rfl; clear hf hb3)
        | (go_at_call 23; (refine (HS.out _ _).mono ?_); rintro e w3 ⟨rfl, rfl⟩; simp only [sgnR])
        | fail)
      go_ret2
      have he := HSE.out
      subst he
      refine ⟨?_, HF2.out⟩
      have hu := HU.out
      rw [hu]
      refine congrArg Ending.returned (congrArg Value.tuple ?_)
      refine congrArg (fun z => #[Value.string z, Value.int .i64 0]) (ba_of ?_)
      simp [prL, mkB, sgnR]
  · have hz : (Utf8.encode 80).size = 1 := by decide
    have q0 : ¬ 9223372036854775807 < (Utf8.encode 80).size + 1 := by omega
    have q1 : ¬ 9223372036854775807 < (Utf8.encode 80).size + 1 + 1 := by omega
    have q2 : ¬ 9223372036854775807 < (Utf8.encode 80).size + 1 + rp.size := by omega
    have q3 : ¬ 9223372036854775807 < (Utf8.encode 80).size + 1 + 1 + rp.size := by omega
    have q4 : ¬ 9223372036854775807 < (Utf8.encode 80).size + 1 + rp.size + 1 := by omega
    have q5 : ¬ 9223372036854775807 < (Utf8.encode 80).size + 1 + 1 + rp.size + 1 := by omega
    have he43 : Utf8.encode 80 = ⟨#[80]⟩ := by decide
    have HU := Lib.hid he43
    clear hz hn he43
    rcases rd with _ | _ <;> rcases rc with _ | _
    all_goals
      go_enter Tryd.func20, Tryd.ntmps20
      go_wp2_with (first
        | (go_at_call 14; (refine (HC.out _).mono ?_); rintro e w2 ⟨rfl, hf⟩; have HF2 := Lib.hid ((HFA.out _).trans hf (fun _ _ h => h)); have hb3 := (Blk.new w 36 _).fr hf (fun h => h); have c0 := hb3.cell 0 rfl; have c1 := hb3.cell 1 rfl; have c2 := hb3.cell 2 rfl; have c3 := hb3.cell 3 rfl; clear hf hb3)
        | (go_at_call 23; (refine (HS.out _ _).mono ?_); rintro e w3 ⟨rfl, rfl⟩; simp only [sgnR])
        | fail)
      go_ret2
      have he := HSE.out
      subst he
      refine ⟨?_, HF2.out⟩
      have hu := HU.out
      rw [hu]
      refine congrArg Ending.returned (congrArg Value.tuple ?_)
      refine congrArg (fun z => #[Value.string z, Value.int .i64 0]) (ba_of ?_)
      simp [prL, mkB, sgnR]
  · have hz : (Utf8.encode 82).size = 1 := by decide
    have q0 : ¬ 9223372036854775807 < (Utf8.encode 82).size + 1 := by omega
    have q1 : ¬ 9223372036854775807 < (Utf8.encode 82).size + 1 + 1 := by omega
    have q2 : ¬ 9223372036854775807 < (Utf8.encode 82).size + 1 + rp.size := by omega
    have q3 : ¬ 9223372036854775807 < (Utf8.encode 82).size + 1 + 1 + rp.size := by omega
    have q4 : ¬ 9223372036854775807 < (Utf8.encode 82).size + 1 + rp.size + 1 := by omega
    have q5 : ¬ 9223372036854775807 < (Utf8.encode 82).size + 1 + 1 + rp.size + 1 := by omega
    have he43 : Utf8.encode 82 = ⟨#[82]⟩ := by decide
    have HU := Lib.hid he43
    clear hz hn he43
    rcases rd with _ | _ <;> rcases rc with _ | _
    all_goals
      go_enter Tryd.func20, Tryd.ntmps20
      go_wp2_with (first
        | (go_at_call 14; (refine (HC.out _).mono ?_); rintro e w2 ⟨rfl, hf⟩; have HF2 := Lib.hid ((HFA.out _).trans hf (fun _ _ h => h)); have hb3 := (Blk.new w 36 _).fr hf (fun h => h); have c0 := hb3.cell 0 rfl; have c1 := hb3.cell 1 rfl; have c2 := hb3.cell 2 rfl; have c3 := hb3.cell 3 rfl; clear hf hb3)
        | (go_at_call 23; (refine (HS.out _ _).mono ?_); rintro e w3 ⟨rfl, rfl⟩; simp only [sgnR])
        | fail)
      go_ret2
      have he := HSE.out
      subst he
      refine ⟨?_, HF2.out⟩
      have hu := HU.out
      rw [hu]
      refine congrArg Ending.returned (congrArg Value.tuple ?_)
      refine congrArg (fun z => #[Value.string z, Value.int .i64 0]) (ba_of ?_)
      simp [prL, mkB, sgnR]
end Go.Proofs.YtmmobhmiemmioaaDoor
