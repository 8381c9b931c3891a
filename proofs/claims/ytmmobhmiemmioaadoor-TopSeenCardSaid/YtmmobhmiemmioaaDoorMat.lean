/- The walk of glob.Match. -/
import Derived.Test.YtmmobhmiemmioaaDoorEmp
import Derived.Outline
namespace Go.Proofs.YtmmobhmiemmioaaDoor
open Go.RowKit

theorem signs_any (p : ByteArray) (w : World) (hm : p.size ≤ 9223372036854775807) : Calls Tryd.prog 34 #[.string p] w (SigPost w (sigF p.data.toList)) := by
  by_cases hp : p.size ≤ 100
  · exact signs_short p w hp
  · exact signs_long p w (by omega) hm

theorem sigS_len : ∀ (n : Nat) {q : List UInt8} {L : List Sg}, sigS n q = some L → L.length ≤ q.length := by
  intro n
  induction n with
  | zero => intro q L h; cases h
  | succ n ih =>
    have key : ∀ {q r : List UInt8} {g : Sg} {L : List Sg}, r.length < q.length → (sigS n r).map (g :: ·) = some L → L.length ≤ q.length := by
      intro q r g L hr h
      rcases hs : sigS n r with _ | M
      · rw [hs] at h; cases h
      · rw [hs] at h
        have e : some (g :: M) = some L := h
        injection e with e
        have := ih hs
        rw [← e, List.length_cons]; omega
    intro q L h
    rcases q with _ | ⟨c, t⟩
    · have e : some [] = some L := h
      injection e with e
      rw [← e]; exact Nat.le_refl _
    by_cases h42 : c = 42
    · subst h42
      rw [sigS_star] at h
      exact key (by have := (strip_suf t).length_le; rw [List.length_cons]; omega) h
    by_cases h63 : c = 63
    · subst h63
      rw [sigS_any] at h
      exact key (by rw [List.length_cons]; omega) h
    by_cases h91 : c = 91
    · subst h91
      rw [sigS_cls] at h
      rcases hc : clsF t with _ | ⟨neg, S, r⟩
      · rw [hc] at h; cases h
      · rw [hc] at h
        exact key (by have := (clsF_suf hc).2; rw [List.length_cons]; omega) h
    by_cases h92 : c = 92
    · subst h92
      rw [sigS_esc] at h
      rcases t with _ | ⟨d, u⟩
      · cases h
      · exact key (by simp only [List.length_cons]; omega) h
    rw [sigS_byte _ _ _ h42 h63 h91 h92] at h
    exact key (by rw [List.length_cons]; omega) h
theorem sigF_len {p : List UInt8} {L : List Sg} (h : sigF p = some L) : L.length ≤ 100 := by
  unfold sigF at h
  split at h
  · cases h
  · have := sigS_len _ h; omega
theorem signs_some (p : ByteArray) (L : List Sg) (n : Nat) (w : World) (hm : p.size ≤ 9223372036854775807) (h : sigF p.data.toList = some L) (hn : n = L.length) :
    Calls Tryd.prog 34 #[.string p] w fun e w' => ∃ ad cap, e = .returned (.tuple #[.slice ad n cap, .bool true]) ∧ SgRow w' ad L ∧ (∀ g, ad = some ⟨g, 0, none⟩ → g < w'.heap.size) ∧ Fr (fun _ => False) w w' :=
  (signs_any p w hm).mono fun e w' ⟨v, ok, h1, h2, h3⟩ => by
    rw [h] at h3
    obtain ⟨h4, h5⟩ : ok = true ∧ OwnG w' w.heap.size v L := h3
    obtain ⟨ad, cap, h6, h7, h8⟩ := h5.row
    subst h4 h6 hn
    exact ⟨ad, cap, h1, h7, h8, Fr.ofB h2⟩

/-- What Match knows of memory. -/
structure MT (w : World) (ad : Option Addr) (L : List Sg) (b n : Nat) (A : Nat → Bool) (wr : World) : Prop where
  row : SgRow wr ad L
  bl : Blk wr b 4 (boolA A (n + 1))
  fr : Fr (fun _ => False) w wr
  hb : w.heap.size ≤ b
  ne : ∀ g, ad = some ⟨g, 0, none⟩ → g ≠ b
  gl : ∀ g, ad = some ⟨g, 0, none⟩ → g < wr.heap.size
theorem SgRow.fr {S : Nat → Prop} {w w' : World} {ad : Option Addr} {L : List Sg} (h : SgRow w ad L) (f : Fr S w w') (hS : ∀ g, ad = some ⟨g, 0, none⟩ → ¬ S g) : SgRow w' ad L := fun k s hk => by
  obtain ⟨g, hg, hl, hs⟩ := h k s hk
  exact ⟨g, hg, Nat.lt_of_lt_of_le hl f.size, hs.fr f hl (hS g hg)⟩
theorem MT.on {w wr w2 : World} {ad : Option Addr} {L : List Sg} {b n : Nat} {A : Nat → Bool} (h : MT w ad L b n A wr) (f : Fr (fun _ => False) wr w2) : MT w ad L b n A w2 :=
  ⟨h.row.fr f (fun _ _ h => h), h.bl.fr f (fun h => h), h.fr.trans f (fun _ _ h => h), h.hb, h.ne, fun g hg => Nat.lt_of_lt_of_le (h.gl g hg) f.size⟩
/-- With the next states beside it. -/
structure NT (w : World) (ad : Option Addr) (L : List Sg) (b nb n : Nat) (A N : Nat → Bool) (wr : World) : Prop where
  mt : MT w ad L b n A wr
  nl : Blk wr nb 4 (boolA N (n + 1))
  hn : w.heap.size ≤ nb
  dn : b ≠ nb
  nn : ∀ g, ad = some ⟨g, 0, none⟩ → g ≠ nb
theorem NT.on {w wr w2 : World} {ad : Option Addr} {L : List Sg} {b nb n : Nat} {A N : Nat → Bool} (h : NT w ad L b nb n A N wr) (f : Fr (fun _ => False) wr w2) : NT w ad L b nb n A N w2 :=
  ⟨h.mt.on f, h.nl.fr f (fun h => h), h.hn, h.dn, h.nn⟩
theorem NT.start {w wr : World} {ad : Option Addr} {L : List Sg} {b n : Nat} {A : Nat → Bool} (h : MT w ad L b n A wr) : NT w ad L b wr.heap.size n A noSet (wr.alloc (.cells (boolA noSet (n + 1)) 4)) :=
  ⟨h.on ((Fr.refl _ wr).alloc _), Blk.new _ _ _, h.fr.size, Nat.ne_of_lt h.bl.lt, fun g hgg => Nat.ne_of_lt (h.gl g hgg)⟩
theorem NT.put {w wr : World} {ad : Option Addr} {L : List Sg} {b nb n : Nat} {A N : Nat → Bool} (h : NT w ad L b nb n A N wr) (k : Nat) : NT w ad L b nb n A (addS N k) (wr.setCell ⟨nb, k, none⟩ (.bool true)) := by
  have f : Fr (fun i => i = nb) wr (wr.setCell ⟨nb, k, none⟩ (.bool true)) := Fr.setCell (S := fun i => i = nb) (Fr.refl _ wr) (p := ⟨nb, k, none⟩) (fun _ => rfl) _
  refine ⟨⟨h.mt.row.fr f (fun g hg e => h.nn g hg e), h.mt.bl.fr f (fun e => h.dn e), h.mt.fr.setCell (p := ⟨nb, k, none⟩) (fun x => (Nat.lt_irrefl _ (Nat.lt_of_lt_of_le x h.hn)).elim) _, h.mt.hb, h.mt.ne, fun g hg => Nat.lt_of_lt_of_le (h.mt.gl g hg) f.size⟩, ?_, h.hn, h.dn, h.nn⟩
  rw [← boolA_set]; exact h.nl.set _ _
theorem MT.start {w w2 : World} {ad : Option Addr} {L : List Sg} (n : Nat) (hr : SgRow w2 ad L) (hg : ∀ g, ad = some ⟨g, 0, none⟩ → g < w2.heap.size) (hf : Fr (fun _ => False) w w2) :
    MT w ad L w2.heap.size n (addS noSet 0) (w2.alloc (.cells (boolA (addS noSet 0) (n + 1)) 4)) :=
  ⟨hr.fr ((Fr.refl (fun _ => False) w2).alloc _) (fun _ _ h => h), Blk.new _ _ _, hf.alloc _, hf.size, fun g h => Nat.ne_of_lt (hg g h), fun g h => by have := hg g h; simp; omega⟩
theorem empty_mt (w : World) (ad : Option Addr) (L : List Sg) (cap b n : Nat) (A : Nat → Bool) (wx : World) (hn : n = L.length) (hL : n ≤ 100) (h : MT w ad L b n A wx) :
    Calls Tryd.prog 45 #[.slice ad n cap, .slice (some ⟨b, 0, none⟩) (n + 1) (n + 1)] wx fun e w' => e = .returned (.tuple #[]) ∧ MT w ad L b n (emS L A n) w' := by
  subst hn
  exact (empty_spec ad L cap b A wx hL h.row h.ne h.bl).mono fun e w' ⟨h1, h2, h3⟩ =>
    ⟨h1, h.row.fr h3 (fun g hg e => h.ne g hg e), h2, h.fr.trans h3 (fun i hi e => by have := h.hb; omega), h.hb, h.ne, fun g hg => Nat.lt_of_lt_of_le (h.gl g hg) h3.size⟩
theorem empty_nt (w : World) (ad : Option Addr) (L : List Sg) (cap b nb n : Nat) (A N : Nat → Bool) (wx : World) (hn : n = L.length) (hL : n ≤ 100) (h : NT w ad L b nb n A N wx) :
    Calls Tryd.prog 45 #[.slice ad n cap, .slice (some ⟨nb, 0, none⟩) (n + 1) (n + 1)] wx fun e w' => e = .returned (.tuple #[]) ∧ MT w ad L nb n (emS L N n) w' :=
  empty_mt w ad L cap nb n N wx hn hL ⟨h.mt.row, h.nl, h.mt.fr, h.hn, h.nn, h.mt.gl⟩
theorem nxS_skip {L : List Sg} {A : Nat → Bool} {c : UInt8} {k : Nat} (h : A k = false ∨ tkS (L.getD k zeroSg) c = false) : nxS L A c (k + 1) = nxS L A c k := by
  rcases h with h | h
  · rw [nxS, h, Bool.false_and]; rfl
  · rw [nxS, h, Bool.and_false]; rfl
theorem nxS_star {L : List Sg} {A : Nat → Bool} {c : UInt8} {k : Nat} (h1 : A k = true) (h2 : tkS (L.getD k zeroSg) c = true) (h3 : star (L.getD k zeroSg) = true) : nxS L A c (k + 1) = addS (nxS L A c k) k := by
  rw [nxS, h1, h2, h3]; rfl
theorem nxS_step {L : List Sg} {A : Nat → Bool} {c : UInt8} {k : Nat} (h1 : A k = true) (h2 : tkS (L.getD k zeroSg) c = true) (h3 : star (L.getD k zeroSg) = false) : nxS L A c (k + 1) = addS (nxS L A c k) (k + 1) := by
  rw [nxS, h1, h2, h3]; rfl

set_option maxRecDepth 100000 in
set_option maxHeartbeats 8000000 in
theorem match_spec (p s : ByteArray) (w : World) (hm : p.size ≤ 9223372036854775807) (hs : s.size ≤ 1000) :
    Calls Tryd.prog 36 #[.string p, .string s] w fun e w' => e = .returned (.bool (matS p.data.toList s.data.toList)) ∧ Fr (fun _ => False) w w' := by
  have hsig := signs_any p w hm
  rcases hsf : sigF p.data.toList with _ | L
  · rw [hsf] at hsig
    have HSG := Lib.hid hsig
    have HE := Lib.hid (show matS p.data.toList s.data.toList = false by unfold matS; rw [hsf])
    clear hsig hsf hm hs
    go_enter Tryd.func36, Tryd.ntmps36
    go_wp2_with (go_at_call 34; (refine HSG.out.mono ?_); rintro e w2 ⟨v, ok, rfl, hbe, hok⟩; obtain rfl : ok = false := hok)
    have he := HE.out
    go_ret
    exact ⟨by rw [he]; rfl, Fr.ofB hbe⟩
  · have hlen : L.length ≤ 100 := sigF_len hsf
    obtain ⟨n, hn⟩ : ∃ n, n = L.length := ⟨_, rfl⟩
    have HSG := Lib.hid (signs_some p L n w hm hsf hn)
    have HE := Lib.hid (show matS p.data.toList s.data.toList = matL L s.data.toList by unfold matS; rw [hsf])
    clear hsig hsf hm
    have HN := Lib.hid hn
    rw [← hn] at hlen
    have hn2 : (n : Int) ≤ 100 := by omega
    have hs2 : (s.size : Int) ≤ 1000 := by omega
    have HLN := Lib.hid (show n + 1 ≤ 1000 by omega)
    have hset := boolA_set noSet (n + 1) 0
    have HEM := Lib.hid (fun ad cap b A wx => empty_mt w ad L cap b n A wx hn hlen)
    have HEN := Lib.hid (fun ad cap b nb A N wx => empty_nt w ad L cap b nb n A N wx hn hlen)
    clear hn
    go_enter Tryd.func36, Tryd.ntmps36
    go_wp2_with (first
      | (go_at_call 34; (refine HSG.out.mono ?_); rintro e w2 ⟨ad, cap, rfl, hrow, hlt, hf⟩; have HRW := Lib.hid hrow; have HGL := Lib.hid hlt; have HF2 := Lib.hid hf; clear hrow hlt hf HSG)
      | (refine wpList_mkb rfl _ _ rfl (n + 1) HLN.out (by first | rfl | (simp; done)) (by first | rfl | (simp; done)) ?_; have c0 := (Blk.new w2 4 (boolA noSet (n + 1))).cell 0 (boolA_at _ _ 0 (by omega)); have f0 := (Blk.new w2 4 (boolA noSet (n + 1))).free 0; have HM := Lib.hid (MT.start n HRW.out HGL.out HF2.out))
      | (go_at_call 45; (refine (HEM.out _ _ _ _ _ HM.out).mono ?_); rintro e w3 ⟨rfl, hm3⟩; have HM3 := Lib.hid hm3; clear hm3 HM c0 f0 HRW HF2)
      | fail)
    generalize w2.heap.size = b0 at HM3 ⊢
    go_loopg [7, 29] s.size (fun gk x7 x29 wr => ∃ (i b : Nat) (A : Nat → Bool), i ≤ s.size ∧ Hid (gk = s.size - i) ∧ x29 = .int .i64 i ∧ x7 = .slice (some ⟨b, 0, none⟩) (n + 1) (n + 1) ∧ Hid (MT w ad L b n A wr) ∧ Hid (matL L s.data.toList = stS L A (s.data.toList.drop i) n))
    case atStart => exact ⟨0, b0, _, Nat.zero_le _, Lib.hid rfl, rfl, rfl, HM3, Lib.hid (by unfold matL; rw [HN.out]; rfl)⟩
    case round =>
      obtain ⟨i, b, A, hi, HG, rfl, rfl, HM, HST⟩ := hrel
      clear HM3 hset HEM
      have i2 : (i : Int) ≤ 1000 := by omega
      obtain ⟨wo, rfl⟩ : ∃ wo : World, wo = wr := ⟨_, rfl⟩
      by_cases his : i < s.size
      · have e1 : (i : Int) < (s.size : Int) := by omega
        obtain ⟨c, t, hct⟩ : ∃ c t, s.data.toList.drop i = c :: t := by
          rcases h : s.data.toList.drop i with _ | ⟨c, t⟩
          · have := drop_nil h; rw [← size_len] at this; omega
          · exact ⟨c, t, rfl⟩
        obtain ⟨his', hc, ht⟩ := at_cons hct
        have HST2 := Lib.hid (show matL L s.data.toList = stS L (emS L (nxS L A c n) n) (s.data.toList.drop (i + 1)) n by rw [HST.out, hct, ht, HN.out]; rfl)
        clear hct ht
        subst hc
        have HIS := Lib.hid his
        clear his
        have HGO := HG
        go_wp2_with (first
          | (refine wpList_mkb rfl _ _ rfl (n + 1) HLN.out (by first | rfl | (simp; done)) (by first | rfl | (simp; done)) ?_; have HNT := Lib.hid (NT.start HM.out); generalize wo.alloc (.cells (boolA noSet (n + 1)) 4) = w4 at HNT ⊢; generalize wo.heap.size = nb at HNT ⊢)
          | fail)
        go_loopg [38] n (fun gk x38 wl => ∃ k : Nat, k ≤ n ∧ Hid (gk = n - k) ∧ x38 = .int .i64 k ∧ Hid (NT w ad L b nb n A (nxS L A (s[i]'his') k) wl))
        case atStart => exact ⟨0, Nat.zero_le _, Lib.hid rfl, rfl, HNT⟩
        case round =>
          obtain ⟨k, hk, HGK, rfl, HNT⟩ := hrel
          have k2 : (k : Int) ≤ 100 := by omega
          by_cases hkn : k < n
          · have q1 : (k : Int) < (n : Int) := by omega
            have q0 : (0 : Int) ≤ (k : Int) := by omega
            have q2 : (k : Int) < (n : Int) + 1 := by omega
            obtain ⟨g, hg⟩ : ∃ g, L[k]? = some g := ⟨_, List.getElem?_eq_getElem (by rw [← HN.out]; exact hkn)⟩
            obtain ⟨gb, rfl, hgl, hsg⟩ := HNT.out.mt.row k g hg
            have hat := HNT.out.mt.bl.cell k (boolA_at _ _ k (by omega))
            have hgd : L.getD k zeroSg = g := by rw [List.getD_eq_getElem?_getD, hg]; rfl
            have HK2 := Lib.hid (show k + 1 ≤ n from hkn)
            rcases hA : A k with _ | _
            · have HX := Lib.hid (nxS_skip (L := L) (c := s[i]'his') (.inl hA))
              rw [hA] at hat
              clear hg hsg hgd hA
              go_wp2_with (fail)
              go_quiet (fail)
              go_wp2_with (fail)
              go_roundg (n - (k + 1))
              case measure => have := HGK.out; have := HK2.out; omega
              case rel => exact ⟨k + 1, HK2.out, Lib.hid rfl, by go_num, Lib.hid (by rw [HX.out]; exact HNT.out.on ((Fr.refl _ _).drewN _))⟩
            · rw [hA] at hat
              rcases htk : tkS g (s[i]'his') with _ | _
              · have HTK := Lib.hid (fun q => (show Calls Tryd.prog 46 #[.pointer (some ⟨gb, k * 259, none⟩), .int .u8 ((s[i]'his').toNat : Int)] (wr.drewN q) fun e w' => e = .returned (.bool false) ∧ ∃ m, w' = (wr.drewN q).drewN m by
                  rw [← htk]; exact takes_spec gb (k * 259) g (s[i]'his') (wr.drewN q) ⟨hsg.kd, hsg.ch, hsg.ng, hsg.st⟩))
                have HX := Lib.hid (nxS_skip (L := L) (A := A) (c := s[i]'his') (k := k) (.inr (by rw [hgd]; exact htk)))
                clear hg hsg hgd hA htk
                go_wp2_with (fail)
                go_quiet ((go_at_call 46; exact Calls.quiet_of (HTK.out _)))
                go_wp2_with (fail)
                go_roundg (n - (k + 1))
                case measure => have := HGK.out; have := HK2.out; omega
                case rel => exact ⟨k + 1, HK2.out, Lib.hid rfl, by go_num, Lib.hid (by rw [HX.out]; exact HNT.out.on ((Fr.refl _ _).drewN _))⟩
              · have HTK := Lib.hid (fun q => (show Calls Tryd.prog 46 #[.pointer (some ⟨gb, k * 259, none⟩), .int .u8 ((s[i]'his').toNat : Int)] (wr.drewN q) fun e w' => e = .returned (.bool true) ∧ ∃ m, w' = (wr.drewN q).drewN m by
                  rw [← htk]; exact takes_spec gb (k * 259) g (s[i]'his') (wr.drewN q) ⟨hsg.kd, hsg.ch, hsg.ng, hsg.st⟩))
                have hkd := hsg.kd
                obtain ⟨K, hK⟩ : ∃ K, K = g.kind := ⟨_, rfl⟩
                rw [← hK] at hkd
                have hn0 := HNT.out.nl.cell k (boolA_at _ _ k (by omega))
                have hf0 := HNT.out.nl.free k
                have hn1 := HNT.out.nl.cell (k + 1) (boolA_at _ _ (k + 1) (by omega))
                have hf1 := HNT.out.nl.free (k + 1)
                have htk2 : tkS (L.getD k zeroSg) (s[i]'his') = true := by rw [hgd]; exact htk
                by_cases h12 : K = 1 ∨ K = 2
                · have hst : star (L.getD k zeroSg) = true := by rw [hgd]; unfold star; rw [← hK]; rcases h12 with h | h <;> rw [h] <;> rfl
                  have HX := Lib.hid (nxS_star hA htk2 hst)
                  clear hg hsg hgd hA htk htk2 hst hK hn1 hf1
                  rcases h12 with rfl | rfl
                  all_goals
                    go_wp2_with (fail)
                    go_quiet ((go_at_call 46; exact Calls.quiet_of (HTK.out _)))
                    go_wp2_with (fail)
                    go_roundg (n - (k + 1))
                    case measure => have := HGK.out; have := HK2.out; omega
                    case rel => exact ⟨k + 1, HK2.out, Lib.hid rfl, by go_num, Lib.hid (by rw [HX.out]; exact ((HNT.out.on ((Fr.refl _ _).drewN _)).put k))⟩
                · have hst : star (L.getD k zeroSg) = false := by rw [hgd]; unfold star; rw [← hK]; have h1 : K ≠ 1 := fun h => h12 (.inl h); have h2 : K ≠ 2 := fun h => h12 (.inr h); simp [h1, h2]
                  have HX := Lib.hid (nxS_step hA htk2 hst)
                  have d1 : ((K : Int) == 1) = false := by simp; omega
                  have d2 : ((K : Int) == 2) = false := by simp; omega
                  clear hg hsg hgd hA htk htk2 hst hK hn0 hf0 h12
                  go_wp2_with (fail)
                  go_quiet ((go_at_call 46; exact Calls.quiet_of (HTK.out _)))
                  go_wp2_with (fail)
                  go_roundg (n - (k + 1))
                  case measure => have := HGK.out; have := HK2.out; omega
                  case rel => exact ⟨k + 1, HK2.out, Lib.hid rfl, by go_num, Lib.hid (by rw [HX.out]; exact ((HNT.out.on ((Fr.refl _ _).drewN _)).put (k + 1)))⟩
          · obtain rfl : k = n := by omega
            clear hkn
            go_wp2_with (first
              | (go_at_call 45; (refine (HEN.out _ _ _ _ _ _ _ HNT.out).mono ?_); rintro e w5 ⟨rfl, hm5⟩; have HM5 := Lib.hid hm5; clear hm5)
              | fail)
            go_roundg (s.size - (i + 1))
            case measure => have := HIS.out; have := HGO.out; omega
            case rel => exact ⟨i + 1, nb, _, HIS.out, Lib.hid rfl, by go_num, rfl, HM5, HST2⟩
      · obtain rfl : i = s.size := by omega
        have cn := HM.out.bl.cell n (boolA_at _ _ n (by omega))
        have HR := Lib.hid (show matL L s.data.toList = A n by rw [HST.out, List.drop_of_length_le (by rw [← size_len]; exact Nat.le_refl _)]; rfl)
        go_wp2_with (fail)
        have he := HE.out
        have hr := HR.out
        go_ret
        exact ⟨by rw [he, hr]; rfl, HM.out.fr⟩
end Go.Proofs.YtmmobhmiemmioaaDoor
