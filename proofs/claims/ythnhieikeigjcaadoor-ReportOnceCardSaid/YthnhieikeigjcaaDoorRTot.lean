/- The walk of Total, the reference's. -/
import Derived.Test.YthnhieikeigjcaaDoorTot
namespace Go.Proofs.YthnhieikeigjcaaDoor
open Go.RowKit

theorem cTk_step {ks : List Int} {i : Nat} {k : Int} {j : Nat} (hk : ks[i]? = some k) (hj : 1 ≤ j) : cTk ks (i + 1) j = cTk ks i j + if k = (j : Int) then 1 else 0 := by
  have e : ks.take (i + 1) = ks.take i ++ [k] := by rw [List.take_add_one, hk]; rfl
  unfold cTk
  rw [e, cOf_snoc]
  by_cases h : k = (j : Int)
  · rw [if_pos ⟨hj, h⟩, if_pos h]
  · rw [if_neg (fun x => h x.2), if_neg h]
theorem linS_hit2 {c : Nat → Nat} {k : Nat} (h : 0 < c k) (hk : 1 ≤ k) : linS c (k - 1) ++ wd k ++ ⟨#[32]⟩ ++ digB (c k) ++ ⟨#[10]⟩ = linS c k := by
  rw [← linS_hit h hk]
  apply ba_ext
  simp only [pre_data2, List.append_assoc]
theorem tot_ref (L : ByteArray) (T K A : Nat) : L ++ ⟨#[116, 111, 108, 100, 32]⟩ ++ humB T ++ ⟨#[44, 32, 99, 111, 112, 105, 101, 100, 32]⟩ ++ humB K ++ ⟨#[10, 115, 112, 97, 114, 101, 100, 32]⟩ ++ pctB K A ++ ⟨#[10]⟩ = L ++ headB T K ++ spaB K A := by
  unfold headB spaB
  apply ba_ext
  simp only [pre_data2, List.append_assoc, List.cons_append, List.nil_append]

set_option maxRecDepth 100000 in
set_option maxHeartbeats 4000000 in
theorem rtotal_spec (a : Option Addr) (ks : List Int) (cap : Nat) (t k : Int) (w : World) (hs : Steps w a ks) (hl : ks.length ≤ 1000) (ht : t ≤ 9223372036854775807) (hk : k ≤ 9223372036854775807) :
    Calls Tryd.prog 17 #[.slice a ks.length cap, .int .i64 t, .int .i64 k] w fun e w' => e = .returned (.string (totB (cOf ks) t.toNat k.toNat)) ∧ Fr (fun _ => False) w w' := by
  have HS := Lib.hid hs
  obtain ⟨n, hn⟩ : ∃ n, n = ks.length := ⟨_, rfl⟩
  rw [← hn] at hl ⊢
  have HN := Lib.hid hn
  have hc : ∀ j, cOf ks j ≤ 1000 := fun j => by have := cOf_le ks j; have := HN.out; omega
  obtain ⟨c, hce⟩ : ∃ c, c = cOf ks := ⟨_, rfl⟩
  rw [← hce] at hc
  have HCB := Lib.hid hc
  have HCE := Lib.hid hce
  have HB0 := Lib.hid (Blk.new w 9 wdA)
  have HF0 := Lib.hid ((Fr.refl (fun _ => False) w).alloc (.cells wdA 9))
  clear hs hn hc hce
  go_enter Tryd.func17, Tryd.ntmps17
  go_wp2
  have hwd : (#[.string ⟨#[]⟩, .string ⟨#[100, 105, 114, 115]⟩, .string ⟨#[102, 105, 108, 101, 115]⟩, .string ⟨#[108, 105, 110, 107, 115]⟩, .string ⟨#[110, 97, 109, 101, 115]⟩, .string ⟨#[115, 101, 116]⟩, .string ⟨#[103, 111, 110, 101]⟩, .string ⟨#[109, 111, 118, 101, 100]⟩] : Array Value) = wdA := rfl
  rw [hwd]
  clear hwd
  generalize w.alloc (.cells wdA 9) = w1 at HB0 HF0 ⊢
  generalize w.heap.size = h at HB0 ⊢
  go_loopg [8, 9] 7 (fun gk x8 x9 wl => ∃ j : Nat, 1 ≤ j ∧ j ≤ 8 ∧ gk = 8 - j ∧ x8 = .string (linS c (j - 1)) ∧ x9 = .int .i64 j ∧ Hid (Blk wl h 9 wdA) ∧ Hid (Fr (fun _ => False) w wl))
  case atStart => exact ⟨1, by omega, by omega, rfl, rfl, rfl, HB0, HF0⟩
  case round =>
    obtain ⟨j, j1, j8, hgj, rfl, rfl, HB, HF⟩ := hrel
    have HGJ := Lib.hid hgj
    clear hgj HB0 HF0
    obtain ⟨wo, rfl⟩ : ∃ wo : World, wo = wr := ⟨_, rfl⟩
    by_cases hj : j < 8
    · have q1 : (j : Int) ≤ 7 := by omega
      have q2 : (j : Int) < 8 := by omega
      have q0 : (0 : Int) ≤ (j : Int) := by omega
      have hcj := HCB.out j
      have HJ := Lib.hid hj
      have J1 := Lib.hid j1
      have zL := lin_size c (fun i => by have := HCB.out i; omega) (j - 1) (by omega)
      obtain ⟨L, hL⟩ : ∃ L, L = linS c (j - 1) := ⟨_, rfl⟩
      rw [← hL] at zL ⊢
      have HL := Lib.hid hL
      clear hj hL
      go_wp2_with (fail)
      go_loopg [10, 11] n (fun gk x10 x11 wl => ∃ i : Nat, i ≤ n ∧ gk = n - i ∧ x10 = .int .i64 (cTk ks i j) ∧ x11 = .int .i64 i ∧ Hid (Blk wl h 9 wdA) ∧ Hid (Fr (fun _ => False) w wl))
      case atStart => exact ⟨0, by omega, rfl, by unfold cTk; rw [List.take_zero, cOf_nil]; rfl, rfl, HB, HF⟩
      case round =>
        obtain ⟨i, hi, hgi, rfl, rfl, HB, HF⟩ := hrel
        have HGI := Lib.hid hgi
        clear hgi
        by_cases hit : i < n
        · obtain ⟨kk, hkk⟩ : ∃ kk, ks[i]? = some kk := ⟨_, List.getElem?_eq_getElem (by rw [← HN.out]; exact hit)⟩
          obtain ⟨x, cs, rfl, hst⟩ := HS.out i kk hkk
          have hcell := (hst.fr HF.out).cell0
          have HH := Lib.hid (cTk_step hkk J1.out)
          have hb1 : cTk ks i j ≤ 1000 := by have := cTk_le ks i j; have := HN.out; omega
          clear hkk hst
          by_cases hkj : kk = (j : Int)
          · have HH2 := Lib.hid (show cTk ks (i + 1) j = cTk ks i j + 1 by rw [HH.out, if_pos hkj])
            clear HH
            subst hkj
            go_wp2_with (fail)
            go_roundg (n - (i + 1))
            case measure => have := HGI.out; omega
            case rel => exact ⟨i + 1, by omega, rfl, by rw [HH2.out]; go_num, by go_num, HB, HF⟩
          · have bkj : (kk == (j : Int)) = false := by simpa using hkj
            have HKJ := Lib.hid hkj
            clear hkj
            go_wp2_with (fail)
            go_roundg (n - (i + 1))
            case measure => have := HGI.out; omega
            case rel => exact ⟨i + 1, by omega, rfl, by rw [HH.out, if_neg HKJ.out]; rfl, by go_num, HB, HF⟩
        · obtain rfl : i = n := by omega
          have hall : cTk ks i j = c j := by rw [HCE.out, ← cTk_all, ← HN.out]
          rw [hall]
          clear hall HGI
          by_cases hp : 0 < c j
          · have hp2 : (0 : Int) < (c j : Int) := by omega
            have HLL := Lib.hid (linS_hit2 hp J1.out)
            have HD := Lib.hid (fun wx => digits_pos (c j) (by omega) wx)
            have z1 := wd_size j HJ.out
            have z2 := digB_size (c j) (by omega)
            have k1 : ¬ 9223372036854775807 < L.size + (wd j).size := by omega
            have k2 : ¬ 9223372036854775807 < L.size + (wd j).size + 1 := by omega
            have k3 : ¬ 9223372036854775807 < L.size + (wd j).size + 1 + (digB (c j)).size := by omega
            have k4 : ¬ 9223372036854775807 < L.size + (wd j).size + 1 + (digB (c j)).size + 1 := by omega
            have k5 : L.size + (wd j).size ≤ 9223372036854775807 := by omega
            have k6 : L.size + (wd j).size ≤ 9223372036854775806 := by omega
            have k7 : L.size + (wd j).size + 1 + (digB (c j)).size ≤ 9223372036854775807 := by omega
            have k8 : L.size + (wd j).size + 1 + (digB (c j)).size ≤ 9223372036854775806 := by omega
            clear hp
            go_wp2_with (fail)
            have HF := Lib.hid HF.out.drew
            have HB := Lib.hid HB.out.drew
            go_region_held3 (fun w' => w'.cell? ⟨h, j, none⟩ = some (.string (wd j)))
              (first | exact HB.out.cell j (wd_at j HJ.out))
              (first
                | (go_at_call 21; ((with_reducible refine (HD.out _).mono ?_); rintro e w3 ⟨rfl, hf⟩; have HB := Lib.hid (HB.out.fr hf (fun h => h)); have HF := Lib.hid (HF.out.trans hf (fun _ _ h => h)); clear hf)))
            go_wp2_with (fail)
            go_roundg (8 - (j + 1))
            case measure => have := HGJ.out; have := HJ.out; omega
            case rel => exact ⟨j + 1, by omega, by omega, rfl, by rw [Nat.add_sub_cancel, ← HLL.out, ← HL.out], by go_num, HB, HF⟩
          · have hp2 : (c j : Int) ≤ 0 := by omega
            have HLL := Lib.hid (linS_miss hp J1.out)
            clear hp
            go_wp2_with (fail)
            go_roundg (8 - (j + 1))
            case measure => have := HGJ.out; have := HJ.out; omega
            case rel => exact ⟨j + 1, by omega, by omega, rfl, by rw [Nat.add_sub_cancel, ← HLL.out, ← HL.out], by go_num, HB, HF⟩
    · obtain rfl : j = 8 := by omega
      rw [show 8 - 1 = 7 from rfl]
      clear HGJ HS
      have zL := lin_size c (fun i => by have := HCB.out i; omega) 7 (by omega)
      obtain ⟨L, hL⟩ : ∃ L, L = linS c 7 := ⟨_, rfl⟩
      rw [← hL] at zL ⊢
      have HL := Lib.hid hL
      obtain ⟨T, hT⟩ : ∃ T, T = max t 0 := ⟨_, rfl⟩
      obtain ⟨K, hK⟩ : ∃ K, K = max k 0 := ⟨_, rfl⟩
      have HeT := Lib.hid (show t.toNat = T.toNat by omega)
      have HeK := Lib.hid (show k.toNat = K.toNat by omega)
      have T0 : 0 ≤ T := by omega
      have T1 : T ≤ 9223372036854775807 := by omega
      have K0 : 0 ≤ K := by omega
      have K1 : K ≤ 9223372036854775807 := by omega
      have hT' := hT.symm
      have hK' := hK.symm
      have zT := hum_size T.toNat (by omega)
      have zK := hum_size K.toNat (by omega)
      have HHT := Lib.hid (fun wx => rhuman_spec T T1 wx)
      have HHK := Lib.hid (fun wx => rhuman_spec K K1 wx)
      clear hT hK hL
      have tail : ∀ A : Nat, A = allN T.toNat K.toNat → (∀ wx, Calls Tryd.prog 12 #[.int .i64 K, .int .i64 (A : Int)] wx fun e w' => e = .returned (.string (pctB K.toNat A)) ∧ Fr (fun _ => False) wx w') := fun A hA wx =>
        rpercent_spec K A (by rw [hA]; unfold allN; split <;> omega) wx
      by_cases hsum : T + K ≤ 9223372036854775807
      · have hA : (T + K).toNat = allN T.toNat K.toNat := by unfold allN; rw [if_pos (by omega)]; omega
        have HP := tail _ hA
        rw [show (((T + K).toNat : Nat) : Int) = T + K by omega] at HP
        have zP := pct_size K.toNat (T + K).toNat
        have HHP := Lib.hid HP
        have HA := Lib.hid hA
        have d1 : T ≤ 9223372036854775807 - K := by omega
        clear tail hA HP
        go_wp2_with (first
          | (go_at_call 10; ((with_reducible refine (HHT.out _).mono ?_); rintro e w3 ⟨rfl, hf⟩; have HF := Lib.hid (HF.out.trans hf (fun _ _ h => h)); clear hf HHT))
          | (go_at_call 10; ((with_reducible refine (HHK.out _).mono ?_); rintro e w4 ⟨rfl, hf⟩; have HF := Lib.hid (HF.out.trans hf (fun _ _ h => h)); clear hf))
          | (go_at_call 12; ((with_reducible refine (HHP.out _).mono ?_); rintro e w6 ⟨rfl, hf⟩; have HF := Lib.hid (HF.out.trans hf (fun _ _ h => h)); clear hf)))
        have he := tot_ref L T.toNat K.toNat (T + K).toNat
        go_ret
        exact ⟨by rw [HeT.out, HeK.out, ← HCE.out]; unfold totB; rw [← HA.out, ← HL.out, ← he]; rfl, HF.out⟩
      · have hA : 9223372036854775807 = allN T.toNat K.toNat := by unfold allN; rw [if_neg (by omega)]
        have HP := tail _ hA
        rw [show (((9223372036854775807 : Nat)) : Int) = 9223372036854775807 from rfl] at HP
        have zP := pct_size K.toNat 9223372036854775807
        have HHP := Lib.hid HP
        have HA := Lib.hid hA
        have d1 : 9223372036854775807 - K < T := by omega
        clear tail hA HP hsum
        go_wp2_with (first
          | (go_at_call 10; ((with_reducible refine (HHT.out _).mono ?_); rintro e w3 ⟨rfl, hf⟩; have HF := Lib.hid (HF.out.trans hf (fun _ _ h => h)); clear hf HHT))
          | (go_at_call 10; ((with_reducible refine (HHK.out _).mono ?_); rintro e w4 ⟨rfl, hf⟩; have HF := Lib.hid (HF.out.trans hf (fun _ _ h => h)); clear hf))
          | (go_at_call 12; ((with_reducible refine (HHP.out _).mono ?_); rintro e w6 ⟨rfl, hf⟩; have HF := Lib.hid (HF.out.trans hf (fun _ _ h => h)); clear hf)))
        have he := tot_ref L T.toNat K.toNat 9223372036854775807
        go_ret
        exact ⟨by rw [HeT.out, HeK.out, ← HCE.out]; unfold totB; rw [← HA.out, ← HL.out, ← he]; rfl, HF.out⟩
end Go.Proofs.YthnhieikeigjcaaDoor
