/- Rules: Act, Hidden, Safe. -/
import Derived.Test.YtmmobhmiemmioaaDoorRm
namespace Go.Proofs.YtmmobhmiemmioaaDoor
open Go.RowKit

def hitR (r : R) (p : ByteArray) (dir drop : Bool) : Bool := (drop || r.act == 1 || r.act == 2) && matR r p dir
def actS (p : ByteArray) (dir drop : Bool) : List R → Int
  | [] => 0
  | r :: t => if hitR r p dir drop then r.act else actS p dir drop t
theorem actS_skip (p : ByteArray) (dir drop : Bool) (L : List R) (n : Nat) (h : ∀ r ∈ L.take n, hitR r p dir drop = false) : actS p dir drop L = actS p dir drop (L.drop n) := by
  induction n generalizing L with
  | zero => rfl
  | succ n ih =>
    rcases L with _ | ⟨r, t⟩
    · rfl
    · rw [actS, if_neg (by rw [h r (by simp)]; decide)]
      exact ih t (fun x hx => h x (by simp [hx]))
theorem actS_hit (p : ByteArray) (dir drop : Bool) (L : List R) (n : Nat) (r : R) (h : ∀ x ∈ L.take n, hitR x p dir drop = false) (hr : L[n]? = some r) (hc : hitR r p dir drop = true) : actS p dir drop L = r.act := by
  rw [actS_skip p dir drop L n h]
  obtain ⟨hn, he⟩ := List.getElem?_eq_some_iff.1 hr
  rw [List.drop_eq_getElem_cons hn, he, actS, if_pos hc]
theorem actS_none (p : ByteArray) (dir drop : Bool) (L : List R) (h : ∀ x ∈ L, hitR x p dir drop = false) : actS p dir drop L = 0 := by
  have := actS_skip p dir drop L L.length (fun r hr => h r (List.mem_of_mem_take hr))
  rw [this, List.drop_length]; rfl

set_option maxHeartbeats 4000000 in
theorem acts_spec (ad : Option Addr) (L : List R) (cap : Nat) (p : ByteArray) (dir drop : Bool) (w : World) (hL : L.length ≤ 64) (hr : RRow w ad L) (hp : ∀ r ∈ L, r.pat.size ≤ 9223372036854775807) (hs : p.size ≤ 800) :
    Calls Tryd.prog 18 #[.slice ad L.length cap, .string p, .bool dir, .bool drop] w fun e w' => e = .returned (.int .i64 (actS p dir drop L)) ∧ Fr (fun _ => False) w w' := by
  obtain ⟨n, hn⟩ : ∃ n, n = L.length := ⟨_, rfl⟩
  rw [← hn] at hL ⊢
  have HR := Lib.hid hr
  have HP := Lib.hid hp
  have HN := Lib.hid hn
  have HS := Lib.hid hs
  have e64 : (n : Int) ≤ 64 := by omega
  clear hn hr hp
  rcases drop with _ | _
  · skip
    go_enter Tryd.func18, Tryd.ntmps18
    go_wp2_with (fail)
    go_loopg [13] n (fun gk x13 wr => ∃ i : Nat, i ≤ n ∧ Hid (gk = n - i) ∧ x13 = .int .i64 i ∧ Hid (Fr (fun _ => False) w wr) ∧ Hid (∀ x ∈ L.take i, hitR x p dir false = false))
    case atStart => exact ⟨0, Nat.zero_le _, Lib.hid rfl, rfl, Lib.hid (Fr.refl _ _), Lib.hid (fun x hx => by simp at hx)⟩
    case round =>
      obtain ⟨i, hi, HG, rfl, HF, HA⟩ := hrel
      have i2 : (i : Int) ≤ 64 := by omega
      by_cases hin : i < n
      · have i3 : (i : Int) < (n : Int) := by omega
        obtain ⟨r, hx⟩ : ∃ r, L[i]? = some r := ⟨_, List.getElem?_eq_getElem (by rw [← HN.out]; exact hin)⟩
        obtain ⟨q, rfl, hat⟩ := (HR.out.fr HF.out) i r hx
        have HAT := Lib.hid hat
        have HM := Lib.hid (fun wx => mat_spec r p dir wx (HP.out r (List.mem_iff_getElem?.2 ⟨i, hx⟩)) HS.out)
        have HFA := Lib.hid (HF.out.alloc (.cells r.cs.toArray 36))
        have HIN := Lib.hid hin
        have HX := Lib.hid hx
        have HHIT := Lib.hid (show hitR r p dir false = ((false || r.act == 1 || r.act == 2) && matR r p dir) from rfl)
        clear hx hat hin
        rcases r with ⟨ra, rp, rd, rc⟩
        simp only at HM HAT HHIT
        obtain ⟨m, hm⟩ : ∃ m, m = matR ⟨ra, rp, rd, rc⟩ p dir := ⟨_, rfl⟩
        rw [← hm] at HM HHIT
        clear hm
        by_cases h1 : ra = 1
        · subst h1
          rcases m with _ | _
          · skip
            have HA2 := Lib.hid (take_step (Pd := fun x => hitR x p dir false = false) HA.out HX.out HHIT.out)
            go_wp2_with (first
            | (refine wpList_load_any rfl 36 _ rfl (q.add (i * 4)) rfl [.int .i64 1, .string rp, .bool rd, .bool rc] _ HAT.out.2 Tryd.underlying36 rfl Tryd.size36 ?_)
            | (go_at_call 28; (refine (HM.out _).mono ?_); rintro e w2 ⟨rfl, hf⟩; have HF2 := Lib.hid hf; have hb3 := (Blk.new wr 36 _).fr hf (fun h => h); have c0 := hb3.cell 0 rfl; clear hf hb3)
            | fail)
            go_roundg (n - (i + 1))
            case measure => have := HG.out; have := HIN.out; omega
            case rel => exact ⟨i + 1, HIN.out, Lib.hid rfl, by go_num, Lib.hid (HFA.out.trans HF2.out (fun _ _ h => h)), HA2⟩
          · skip
            have HE2 := Lib.hid (show actS p dir false L = 1 from actS_hit _ _ _ L i _ HA.out HX.out HHIT.out)
            go_wp2_with (first
            | (refine wpList_load_any rfl 36 _ rfl (q.add (i * 4)) rfl [.int .i64 1, .string rp, .bool rd, .bool rc] _ HAT.out.2 Tryd.underlying36 rfl Tryd.size36 ?_)
            | (go_at_call 28; (refine (HM.out _).mono ?_); rintro e w2 ⟨rfl, hf⟩; have HF2 := Lib.hid hf; have hb3 := (Blk.new wr 36 _).fr hf (fun h => h); have c0 := hb3.cell 0 rfl; clear hf hb3)
            | fail)
            have he := HE2.out
            go_ret
            exact ⟨by rw [he]; rfl, HFA.out.trans HF2.out (fun _ _ h => h)⟩
        · by_cases h2 : ra = 2
          · subst h2
            rcases m with _ | _
            · skip
              have HA2 := Lib.hid (take_step (Pd := fun x => hitR x p dir false = false) HA.out HX.out HHIT.out)
              go_wp2_with (first
              | (refine wpList_load_any rfl 36 _ rfl (q.add (i * 4)) rfl [.int .i64 2, .string rp, .bool rd, .bool rc] _ HAT.out.2 Tryd.underlying36 rfl Tryd.size36 ?_)
              | (go_at_call 28; (refine (HM.out _).mono ?_); rintro e w2 ⟨rfl, hf⟩; have HF2 := Lib.hid hf; have hb3 := (Blk.new wr 36 _).fr hf (fun h => h); have c0 := hb3.cell 0 rfl; clear hf hb3)
              | fail)
              go_roundg (n - (i + 1))
              case measure => have := HG.out; have := HIN.out; omega
              case rel => exact ⟨i + 1, HIN.out, Lib.hid rfl, by go_num, Lib.hid (HFA.out.trans HF2.out (fun _ _ h => h)), HA2⟩
            · skip
              have HE2 := Lib.hid (show actS p dir false L = 2 from actS_hit _ _ _ L i _ HA.out HX.out HHIT.out)
              go_wp2_with (first
              | (refine wpList_load_any rfl 36 _ rfl (q.add (i * 4)) rfl [.int .i64 2, .string rp, .bool rd, .bool rc] _ HAT.out.2 Tryd.underlying36 rfl Tryd.size36 ?_)
              | (go_at_call 28; (refine (HM.out _).mono ?_); rintro e w2 ⟨rfl, hf⟩; have HF2 := Lib.hid hf; have hb3 := (Blk.new wr 36 _).fr hf (fun h => h); have c0 := hb3.cell 0 rfl; clear hf hb3)
              | fail)
              have he := HE2.out
              go_ret
              exact ⟨by rw [he]; rfl, HFA.out.trans HF2.out (fun _ _ h => h)⟩
          · have b1 : (ra == 1) = false := by simpa using h1
            have b2 : (ra == 2) = false := by simpa using h2
            rw [b1, b2] at HHIT
            have HA2 := Lib.hid (take_step (Pd := fun x => hitR x p dir false = false) HA.out HX.out HHIT.out)
            go_wp2_with (first
            | (refine wpList_load_any rfl 36 _ rfl (q.add (i * 4)) rfl [.int .i64 ra, .string rp, .bool rd, .bool rc] _ HAT.out.2 Tryd.underlying36 rfl Tryd.size36 ?_)
            | fail)
            go_roundg (n - (i + 1))
            case measure => have := HG.out; have := HIN.out; omega
            case rel => exact ⟨i + 1, HIN.out, Lib.hid rfl, by go_num, HFA, HA2⟩
      · obtain rfl : i = n := by omega
        have HE2 := Lib.hid (show actS p dir false L = 0 from actS_none _ _ _ _ (fun x hx => HA.out x (by rw [HN.out, List.take_length]; exact hx)))
        clear hin
        go_wp2_with (fail)
        have he := HE2.out
        go_ret
        exact ⟨by rw [he]; rfl, HF.out⟩
  · skip
    go_enter Tryd.func18, Tryd.ntmps18
    go_wp2_with (fail)
    go_loopg [13] n (fun gk x13 wr => ∃ i : Nat, i ≤ n ∧ Hid (gk = n - i) ∧ x13 = .int .i64 i ∧ Hid (Fr (fun _ => False) w wr) ∧ Hid (∀ x ∈ L.take i, hitR x p dir true = false))
    case atStart => exact ⟨0, Nat.zero_le _, Lib.hid rfl, rfl, Lib.hid (Fr.refl _ _), Lib.hid (fun x hx => by simp at hx)⟩
    case round =>
      obtain ⟨i, hi, HG, rfl, HF, HA⟩ := hrel
      have i2 : (i : Int) ≤ 64 := by omega
      by_cases hin : i < n
      · have i3 : (i : Int) < (n : Int) := by omega
        obtain ⟨r, hx⟩ : ∃ r, L[i]? = some r := ⟨_, List.getElem?_eq_getElem (by rw [← HN.out]; exact hin)⟩
        obtain ⟨q, rfl, hat⟩ := (HR.out.fr HF.out) i r hx
        have HAT := Lib.hid hat
        have HM := Lib.hid (fun wx => mat_spec r p dir wx (HP.out r (List.mem_iff_getElem?.2 ⟨i, hx⟩)) HS.out)
        have HFA := Lib.hid (HF.out.alloc (.cells r.cs.toArray 36))
        have HIN := Lib.hid hin
        have HX := Lib.hid hx
        have HHIT := Lib.hid (show hitR r p dir true = ((true || r.act == 1 || r.act == 2) && matR r p dir) from rfl)
        clear hx hat hin
        rcases r with ⟨ra, rp, rd, rc⟩
        simp only at HM HAT HHIT
        obtain ⟨m, hm⟩ : ∃ m, m = matR ⟨ra, rp, rd, rc⟩ p dir := ⟨_, rfl⟩
        rw [← hm] at HM HHIT
        clear hm
        rw [show (true || ra == 1 || ra == 2) = true by simp] at HHIT
        rcases m with _ | _
        · skip
          have HA2 := Lib.hid (take_step (Pd := fun x => hitR x p dir true = false) HA.out HX.out HHIT.out)
          go_wp2_with (first
          | (refine wpList_load_any rfl 36 _ rfl (q.add (i * 4)) rfl [.int .i64 ra, .string rp, .bool rd, .bool rc] _ HAT.out.2 Tryd.underlying36 rfl Tryd.size36 ?_)
          | (go_at_call 28; (refine (HM.out _).mono ?_); rintro e w2 ⟨rfl, hf⟩; have HF2 := Lib.hid hf; have hb3 := (Blk.new wr 36 _).fr hf (fun h => h); have c0 := hb3.cell 0 rfl; clear hf hb3)
          | fail)
          go_roundg (n - (i + 1))
          case measure => have := HG.out; have := HIN.out; omega
          case rel => exact ⟨i + 1, HIN.out, Lib.hid rfl, by go_num, Lib.hid (HFA.out.trans HF2.out (fun _ _ h => h)), HA2⟩
        · skip
          have HE2 := Lib.hid (show actS p dir true L = ra from actS_hit _ _ _ L i _ HA.out HX.out HHIT.out)
          go_wp2_with (first
          | (refine wpList_load_any rfl 36 _ rfl (q.add (i * 4)) rfl [.int .i64 ra, .string rp, .bool rd, .bool rc] _ HAT.out.2 Tryd.underlying36 rfl Tryd.size36 ?_)
          | (go_at_call 28; (refine (HM.out _).mono ?_); rintro e w2 ⟨rfl, hf⟩; have HF2 := Lib.hid hf; have hb3 := (Blk.new wr 36 _).fr hf (fun h => h); have c0 := hb3.cell 0 rfl; clear hf hb3)
          | fail)
          have he := HE2.out
          go_ret
          exact ⟨by rw [he]; rfl, HFA.out.trans HF2.out (fun _ _ h => h)⟩
      · obtain rfl : i = n := by omega
        have HE2 := Lib.hid (show actS p dir true L = 0 from actS_none _ _ _ _ (fun x hx => HA.out x (by rw [HN.out, List.take_length]; exact hx)))
        clear hin
        go_wp2_with (fail)
        have he := HE2.out
        go_ret
        exact ⟨by rw [he]; rfl, HF.out⟩
end Go.Proofs.YtmmobhmiemmioaaDoor
