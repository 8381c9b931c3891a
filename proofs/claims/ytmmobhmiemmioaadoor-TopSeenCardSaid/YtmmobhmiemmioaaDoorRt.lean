/- Rules: Text. -/
import Derived.Test.YtmmobhmiemmioaaDoorRp
namespace Go.Proofs.YtmmobhmiemmioaaDoor
open Go.RowKit

theorem chkL_zero {L : List R} (h : chkL L = 0) : L.length ≤ 64 ∧ ∀ r ∈ L, chkR r = 0 := by
  unfold chkL at h
  split at h
  · cases h
  · refine ⟨by omega, ?_⟩
    rename_i h64
    clear h64
    induction L with
    | nil => intro r hr; cases hr
    | cons x t ih =>
      unfold flt at h
      split at h
      · rename_i hx
        intro r hr
        rcases List.mem_cons.1 hr with rfl | hr
        · exact hx
        · exact ih h r hr
      · rename_i hx; exact absurd h hx
theorem prL_len {r : R} (h : chkR r = 0) : (prL r).length ≤ 104 := by
  have := (chkS_good h).2
  rw [size_len] at this
  unfold prL
  simp only [List.length_cons, List.length_append]
  have h1 : (if r.anc = true then [(47 : UInt8)] else []).length ≤ 1 := by split <;> simp
  have h2 : (if r.dir = true then [(47 : UInt8)] else []).length ≤ 1 := by split <;> simp
  omega
theorem txL_len {L : List R} (h : ∀ r ∈ L, chkR r = 0) : (txL L).length ≤ 105 * L.length := by
  induction L with
  | nil => exact Nat.zero_le _
  | cons r t ih =>
    have h1 := ih (fun x hx => h x (List.mem_cons_of_mem _ hx))
    have h2 := prL_len (h r (List.mem_cons_self ..))
    unfold txL at *
    rw [List.flatMap_cons, List.length_append, List.length_append]
    simp only [List.length_cons, List.length_nil] at *
    omega
theorem txL_step (L : List R) (i : Nat) (r : R) (h : L[i]? = some r) : txL (L.take (i + 1)) = txL (L.take i) ++ (prL r ++ [10]) := by
  unfold txL
  rw [List.take_add_one, h, List.flatMap_append]
  simp
theorem mkB_size (l : List UInt8) : (mkB l).size = l.length := rfl

set_option maxHeartbeats 4000000 in
theorem txt_spec (ad : Option Addr) (L : List R) (cap : Nat) (w : World) (h0 : chkL L = 0) (hr : RRow w ad L) :
    Calls Tryd.prog 11 #[.slice ad L.length cap] w fun e w' => e = .returned (.tuple #[.string (mkB (txL L)), .int .i64 0]) ∧ Fr (fun _ => False) w w' := by
  obtain ⟨hL, hall⟩ := chkL_zero h0
  have hpm : ∀ r ∈ L, r.pat.size ≤ 9223372036854775807 := fun r hx => by have := (chkS_good (hall r hx)).2; omega
  have HC := Lib.hid (fun wx (hx : RRow wx ad L) => chkl_spec ad L cap wx (by omega) hx hpm)
  rw [h0] at HC
  obtain ⟨n, hn⟩ : ∃ n, n = L.length := ⟨_, rfl⟩
  rw [← hn] at hL HC ⊢
  have HR := Lib.hid hr
  have HP := Lib.hid hpm
  have HN := Lib.hid hn
  have HALL := Lib.hid hall
  have e64 : (n : Int) ≤ 64 := by omega
  have HE := Lib.hid (show mkB (txL L) = mkB (txL (L.take n)) by rw [hn, List.take_length])
  clear hn hr hall hpm h0
  generalize mkB (txL L) = res at HE ⊢
  go_enter Tryd.func11, Tryd.ntmps11
  go_wp2_with (first | (go_at_call 4; (refine (HC.out _ HR.out).mono ?_); rintro e w1 ⟨rfl, hf⟩; have HF1 := Lib.hid hf; clear hf) | fail)
  go_loopg [5, 17] n (fun gk x5 x17 wr => ∃ i : Nat, i ≤ n ∧ Hid (gk = n - i) ∧ x5 = .string (mkB (txL (L.take i))) ∧ x17 = .int .i64 i ∧ Hid (Fr (fun _ => False) w wr))
  case atStart => exact ⟨0, Nat.zero_le _, Lib.hid rfl, rfl, rfl, HF1⟩
  case round =>
    obtain ⟨i, hi, HG, rfl, rfl, HF⟩ := hrel
    have i2 : (i : Int) ≤ 64 := by omega
    by_cases hin : i < n
    · have i3 : (i : Int) < (n : Int) := by omega
      obtain ⟨r, hx⟩ : ∃ r, L[i]? = some r := ⟨_, List.getElem?_eq_getElem (by rw [← HN.out]; exact hin)⟩
      obtain ⟨p, rfl, hat⟩ := (HR.out.fr HF.out) i r hx
      have HAT := Lib.hid hat
      have hmem : r ∈ L := List.mem_iff_getElem?.2 ⟨i, hx⟩
      have HPR := Lib.hid (fun wx => prt_spec r wx (HP.out r hmem) (HALL.out r hmem))
      have HFA := Lib.hid (HF.out.alloc (.cells r.cs.toArray 36))
      have hl1 := prL_len (HALL.out r hmem)
      have hl2 := txL_len (L := L.take i) (fun x hx => HALL.out x (List.mem_of_mem_take hx))
      have hl3 : (L.take i).length ≤ 64 := by rw [List.length_take]; omega
      have HST := Lib.hid (show mkB (txL (L.take i)) ++ (mkB (prL r) ++ ⟨#[10]⟩) = mkB (txL (L.take (i + 1))) by
        rw [txL_step L i r hx]; apply ba_of; simp [mkB])
      have z1 := mkB_size (prL r)
      have z2 := mkB_size (txL (L.take i))
      obtain ⟨ln, hln⟩ : ∃ ln, ln = mkB (prL r) := ⟨_, rfl⟩
      obtain ⟨tx, htx⟩ : ∃ tx, tx = mkB (txL (L.take i)) := ⟨_, rfl⟩
      rw [← hln] at z1 HPR HST
      rw [← htx] at z2 HST ⊢
      have q1 : ¬ 9223372036854775807 < ln.size + 1 := by omega
      have q2 : ¬ 9223372036854775807 < tx.size + (ln.size + 1) := by omega
      have HIN := Lib.hid hin
      clear hx hat hmem hl1 hl2 hl3 z1 z2 hln htx
      go_wp2_with (first
        | (refine wpList_load_any rfl 36 _ rfl (p.add (i * 4)) rfl [.int .i64 r.act, .string r.pat, .bool r.dir, .bool r.anc] _ HAT.out.2 Tryd.underlying36 rfl Tryd.size36 ?_)
        | (go_at_call 20; (refine (HPR.out _).mono ?_); rintro e w2 ⟨rfl, hf⟩; have HF2 := Lib.hid hf; clear hf)
        | fail)
      go_roundg (n - (i + 1))
      case measure => have := HG.out; have := HIN.out; omega
      case rel => exact ⟨i + 1, HIN.out, Lib.hid rfl, by rw [HST.out], by go_num, Lib.hid (HFA.out.trans HF2.out (fun _ _ h => h))⟩
    · obtain rfl : i = n := by omega
      clear hin
      go_wp2_with (fail)
      have he := HE.out
      go_ret2
      exact ⟨by rw [he]; rfl, HF.out⟩
end Go.Proofs.YtmmobhmiemmioaaDoor
