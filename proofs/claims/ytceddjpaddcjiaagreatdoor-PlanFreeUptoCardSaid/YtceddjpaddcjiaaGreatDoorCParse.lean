/- The walk of cron.Parse: a text's expression. -/
import Derived.Test.YtceddjpaddcjiaaGreatDoorParse
namespace Go.Proofs.YtceddjpaddcjiaaGreatDoor
open Go.RowKit
def namedF (s : ByteArray) : ByteArray :=
  if s = ⟨#[64, 104, 111, 117, 114, 108, 121]⟩ then ⟨#[48, 32, 42, 32, 42, 32, 42, 32, 42]⟩
  else if s = ⟨#[64, 100, 97, 105, 108, 121]⟩ then ⟨#[48, 32, 48, 32, 42, 32, 42, 32, 42]⟩
  else if s = ⟨#[64, 109, 105, 100, 110, 105, 103, 104, 116]⟩ then ⟨#[48, 32, 48, 32, 42, 32, 42, 32, 42]⟩
  else if s = ⟨#[64, 119, 101, 101, 107, 108, 121]⟩ then ⟨#[48, 32, 48, 32, 42, 32, 42, 32, 48]⟩
  else if s = ⟨#[64, 109, 111, 110, 116, 104, 108, 121]⟩ then ⟨#[48, 32, 48, 32, 49, 32, 42, 32, 42]⟩
  else if s = ⟨#[64, 121, 101, 97, 114, 108, 121]⟩ then ⟨#[48, 32, 48, 32, 49, 32, 49, 32, 42]⟩
  else if s = ⟨#[64, 97, 110, 110, 117, 97, 108, 108, 121]⟩ then ⟨#[48, 32, 48, 32, 49, 32, 49, 32, 42]⟩
  else ⟨#[]⟩
theorem not_bytes {s : ByteArray} {l : List UInt8} (h : ¬ s = ⟨l.toArray⟩) : (s.toList == l) = false := by
  rw [beq_eq_false_iff_ne]
  intro e
  apply h
  rw [← Lib.mk_data s, ← Lib.toList_data, e]
theorem namedF_size (s : ByteArray) : (namedF s).size ≤ 9 := by
  unfold namedF
  repeat' split
  all_goals decide
set_option maxRecDepth 100000 in
theorem named_any (s : ByteArray) (w : World) :
    Calls Tryz.prog 129 #[.string s] w fun e w' => e = .returned (.string (namedF s)) ∧ w' = w := by
  generalize hq : namedF s = q
  unfold namedF at hq
  have HV := Lib.hid hq
  clear hq
  go_enter Tryz.func129, Tryz.ntmps129
  by_cases h1 : s = ⟨#[64, 104, 111, 117, 114, 108, 121]⟩
  · rw [if_pos h1] at HV
    subst h1
    go_wp2
    go_ret
    exact ⟨by rw [← HV.out]; rfl, rfl⟩
  rw [if_neg h1] at HV
  replace h1 := not_bytes (l := [64, 104, 111, 117, 114, 108, 121]) h1
  by_cases h2 : s = ⟨#[64, 100, 97, 105, 108, 121]⟩
  · rw [if_pos h2] at HV
    subst h2
    go_wp2
    go_ret
    exact ⟨by rw [← HV.out]; rfl, rfl⟩
  rw [if_neg h2] at HV
  replace h2 := not_bytes (l := [64, 100, 97, 105, 108, 121]) h2
  by_cases h3 : s = ⟨#[64, 109, 105, 100, 110, 105, 103, 104, 116]⟩
  · rw [if_pos h3] at HV
    subst h3
    go_wp2
    go_ret
    exact ⟨by rw [← HV.out]; rfl, rfl⟩
  rw [if_neg h3] at HV
  replace h3 := not_bytes (l := [64, 109, 105, 100, 110, 105, 103, 104, 116]) h3
  by_cases h4 : s = ⟨#[64, 119, 101, 101, 107, 108, 121]⟩
  · rw [if_pos h4] at HV
    subst h4
    go_wp2
    go_ret
    exact ⟨by rw [← HV.out]; rfl, rfl⟩
  rw [if_neg h4] at HV
  replace h4 := not_bytes (l := [64, 119, 101, 101, 107, 108, 121]) h4
  by_cases h5 : s = ⟨#[64, 109, 111, 110, 116, 104, 108, 121]⟩
  · rw [if_pos h5] at HV
    subst h5
    go_wp2
    go_ret
    exact ⟨by rw [← HV.out]; rfl, rfl⟩
  rw [if_neg h5] at HV
  replace h5 := not_bytes (l := [64, 109, 111, 110, 116, 104, 108, 121]) h5
  by_cases h6 : s = ⟨#[64, 121, 101, 97, 114, 108, 121]⟩
  · rw [if_pos h6] at HV
    subst h6
    go_wp2
    go_ret
    exact ⟨by rw [← HV.out]; rfl, rfl⟩
  rw [if_neg h6] at HV
  replace h6 := not_bytes (l := [64, 121, 101, 97, 114, 108, 121]) h6
  by_cases h7 : s = ⟨#[64, 97, 110, 110, 117, 97, 108, 108, 121]⟩
  · rw [if_pos h7] at HV
    subst h7
    go_wp2
    go_ret
    exact ⟨by rw [← HV.out]; rfl, rfl⟩
  rw [if_neg h7] at HV
  replace h7 := not_bytes (l := [64, 97, 110, 110, 117, 97, 108, 108, 121]) h7
  go_wp2
  go_ret
  exact ⟨by rw [← HV.out]; rfl, rfl⟩
abbrev exZ : Ex := ⟨0, false, 0, false, 0, false, 0, false, 0, false⟩
def emptyB (s : ByteArray) : Bool := s.size == 0
def nameS (s : ByteArray) : ByteArray := if Lib.hasPrefix s.data.toList [64] then namedF s else s
/-- The first error's number of fields from a kind on. -/
def errF : Int → List ByteArray → Int
  | _, [] => 0
  | k, x :: r => if (parseF k x).2.2 ≠ 0 then (parseF k x).2.2 else errF (k + 1) r
/-- A field of a text's fields. -/
abbrev fld (L : List ByteArray) (k : Nat) : Int × Bool × Int := parseF k (L.getD k ⟨#[]⟩)
abbrev exOf (L : List ByteArray) : Ex := ⟨(fld L 0).1, (fld L 0).2.1, (fld L 1).1, (fld L 1).2.1, (fld L 2).1, (fld L 2).2.1, (fld L 3).1, (fld L 3).2.1, (fld L 4).1, (fld L 4).2.1⟩
def fieldsF (L : List ByteArray) : Ex × Int := if errF 0 L ≠ 0 then (exZ, errF 0 L) else (exOf L, 0)
def partsF (L : List ByteArray) : Ex × Int := if L.length ≠ 5 ∨ L.any emptyB = true then (exZ, 70) else fieldsF L
/-- A text's expression, and the error's number. -/
def cronF (s : ByteArray) : Ex × Int := if 400 < s.size then (exZ, 3) else partsF (splitL (nameS s) 32)
theorem partsF_ne {l : List ByteArray} (h : l.length ≠ 5) : partsF l = (exZ, 70) := by unfold partsF; rw [if_pos (Or.inl h)]
def xcell (L : List ByteArray) (j i : Nat) : Value :=
  if i / 2 < j then (if i % 2 = 0 then .int .u64 (fld L (i / 2)).1 else .bool (fld L (i / 2)).2.1) else (if i % 2 = 0 then .int .u64 0 else .bool false)
def xcells (L : List ByteArray) (j : Nat) : Array Value := #[xcell L j 0, xcell L j 1, xcell L j 2, xcell L j 3, xcell L j 4, xcell L j 5, xcell L j 6, xcell L j 7, xcell L j 8, xcell L j 9]
theorem xcells_set (L : List ByteArray) (j : Nat) (h : j < 5) :
    ((xcells L j).setIfInBounds (j * 2) (.int .u64 (fld L j).1)).setIfInBounds (j * 2 + 1) (.bool (fld L j).2.1) = xcells L (j + 1) := by
  match j, h with
  | 0, _ => rfl
  | 1, _ => rfl
  | 2, _ => rfl
  | 3, _ => rfl
  | 4, _ => rfl
theorem empty_no {s : ByteArray} (h : emptyB s = false) : (s.toList == []) = false := not_bytes (l := []) (by rintro rfl; exact absurd h (by decide))
theorem empty_yes {s : ByteArray} (h : emptyB s = true) : s = ⟨#[]⟩ := by
  obtain ⟨⟨l⟩⟩ := s
  simp [emptyB, ByteArray.size] at h
  rw [h]

set_option maxHeartbeats 4000000 in
set_option maxRecDepth 100000 in
theorem cparse_any (s : ByteArray) (w : World) (hE : Env w) :
    Calls Tryz.prog 96 #[.string s] w fun e w' => e = .returned (.tuple #[exV (cronF s).1, .int .i64 (cronF s).2]) ∧ Below w.heap.size w w' := by
  have HE := Lib.hid hE
  clear hE
  have RR := blk_new w (exO exZ)
  have B := a0 w (exO exZ)
  by_cases h4 : 400 < s.size
  · have HV := Lib.hid (show cronF s = (exZ, 3) by unfold cronF; rw [if_pos h4])
    go_enter Tryz.func96, Tryz.ntmps96
    go_wp2_with fail
    generalize w.alloc _ = W at *
    have rc := blk_cell RR
    exact bodyPost_ret (v := .tuple #[exV exZ, .int .i64 3]) (by simp [results, Tryz.results96, go_sem, rc]) rfl ⟨by rw [HV.out], by go_grown⟩
  have HV := Lib.hid (show cronF s = partsF (splitL (nameS s) 32) by unfold cronF; rw [if_neg h4])
  replace h4 : s.size ≤ 400 := by omega
  have hn : (nameS s).size ≤ 400 := by
    unfold nameS
    split
    · exact Nat.le_trans (namedF_size s) (by omega)
    · omega
  go_enter Tryz.func96, Tryz.ntmps96
  go_wp2_with fail
  generalize w.alloc _ = W at *
  refine (Tryz.strings_HasPrefix s ⟨#[64]⟩ _).mono ?_
  rintro e w2 ⟨rfl, rfl⟩
  rcases hp : Lib.hasPrefix s.data.toList [64]
  · have e1 : nameS s = s := by unfold nameS; rw [hp]; rfl
    rw [e1] at HV hn
    clear hp e1
    go_wp2_with fail
    first
      | refine (named_any _ _).mono ?_
        rintro e w3 ⟨rfl, hw⟩
        obtain rfl : w2 = w3 := hw.symm
        go_wp2_with fail
      | skip
    refine (ssplit_any _ 32 _ (by omega) (env_keep HE.out B)).mono ?_
    rintro e w3 ⟨rfl, rfl⟩
    have hsz := splitL_size (s) 32
    generalize splitL _ 32 = L at *
    have np := blk_lt RR
    have PP := blk_new w2 (.cells (L.map Value.string).toArray 9)
    have B := al B (.cells (L.map Value.string).toArray 9)
    have RR := blk_alloc (o' := .cells (L.map Value.string).toArray 9) RR
    generalize w2.alloc (.cells (L.map Value.string).toArray 9) = W3 at *
    generalize w2.heap.size = bp at *
    have rc := blk_cell RR
    have rf := blk_free RR
    have rl := blk_lt RR
    by_cases hl : L.length = 5
    · have HSZ := Lib.hid (fun x (h : x ∈ L) => Nat.le_trans (hsz x h) hn)
      clear hsz
      go_wp2_with fail
      go_loopg [28] 10 (fun g iv wr => ∃ (j : Nat), iv = .int .i64 j ∧ j ≤ 5 ∧ 5 - j ≤ g ∧ Aside ((L.take j).any emptyB = false) ∧ W3 = wr)
      case atStart => exact ⟨0, rfl, by omega, by omega, rfl, rfl⟩
      case round =>
        obtain ⟨j, rfl, hj, hg, hO, rfl⟩ := hrel
        have HO := Lib.hid hO
        clear hO
        by_cases hlt : j < 5
        · have hlt2 : j < L.length := by omega
          have cp : W3.cell? ⟨bp, j, none⟩ = some (.string L[j]) := by rw [blk_cell PP]; simp [hlt2]
          rcases qe : emptyB L[j]
          · have ze := empty_no qe
            have HO2 := Lib.hid (show (L.take (j + 1)).any emptyB = false by rw [List.take_succ_eq_append_getElem hlt2, List.any_append, HO.out]; simp [qe])
            clear qe
            go_wp2
            go_roundg (gk - 1)
            case measure => omega
            case rel => exact ⟨j + 1, by go_num, by omega, by omega, HO2.out, rfl⟩
          · have z := empty_yes qe
            have HV2 := Lib.hid (HV.out.trans (show partsF L = (exZ, 70) by unfold partsF; rw [if_pos (Or.inr (List.any_eq_true.2 ⟨_, List.getElem_mem hlt2, qe⟩))]))
            rw [z] at cp
            clear z qe
            go_wp2
            exact bodyPost_ret (v := .tuple #[exV exZ, .int .i64 70]) (by simp [results, Tryz.results96, go_sem, rc]) rfl ⟨by rw [HV2.out], by go_grown⟩
        · have hj5 : j = 5 := by omega
          subst hj5
          have ho := HO.out
          rw [List.take_of_length_le (by omega)] at ho
          have HV2 := Lib.hid (HV.out.trans (show partsF L = fieldsF L by unfold partsF; rw [if_neg (by rintro (h | h); exact h hl; rw [ho] at h; cases h)]))
          clear HO ho HV rc rf
          have XX := blk_new W3 (exO exZ)
          have np2 := blk_lt PP
          have B := al B (exO exZ)
          have RR := blk_alloc (o' := exO exZ) RR
          have PP := blk_alloc (o' := exO exZ) PP
          go_wp2_with fail
          generalize W3.alloc (exO exZ) = W at *
          generalize W3.heap.size = bx at *
          have n1 : w.heap.size ≠ bx := by omega
          have n2 : bp ≠ bx := by omega
          have n3 : w.heap.size ≤ bx := by omega
          go_loopg [38] 10 (fun g iv wr => ∃ (j : Nat), iv = .int .i64 j ∧ j ≤ 5 ∧ 5 - j ≤ g ∧ Aside (errF j (L.drop j) = errF 0 L) ∧ Below w.heap.size w wr ∧ wr.heap[w.heap.size]? = some (exO exZ) ∧ wr.heap[bx]? = some (.cells (xcells L j) 42 (0, 0)) ∧ wr.heap[bp]? = some (.cells (L.map Value.string).toArray 9))
          case atStart => exact ⟨0, rfl, by omega, by omega, rfl, B, RR, XX, PP⟩
          case round =>
            obtain ⟨j, rfl, hj, hg, hO, B, RR, XX, PP⟩ := hrel
            have HO := Lib.hid hO
            clear hO
            by_cases hlt : j < 5
            · have hlt2 : j < L.length := by omega
              have cp : wr.cell? ⟨bp, j, none⟩ = some (.string L[j]) := by rw [blk_cell PP]; simp [hlt2]
              have hx : L.drop j = L[j] :: L.drop (j + 1) := List.drop_eq_getElem_cons hlt2
              have hgd : fld L j = parseF j L[j] := by unfold fld; rw [List.getD_eq_getElem?_getD, List.getElem?_eq_getElem hlt2]; rfl
              have hxs := HSZ.out _ (List.getElem_mem hlt2)
              have hs := xcells_set L j hlt
              rw [hgd] at hs
              have HO2 := HO.out
              rw [hx] at HO2
              generalize L[j] = x at *
              have HX := Lib.hid hx
              clear hx hgd
              go_wp2_with fail
              refine (fparse_any j x _ hxs (env_keep HE.out B) (by omega) (by omega)).mono ?_
              rintro e w4 ⟨rfl, hb⟩
              have B := vi B hb
              have RR := blk_keep RR hb
              have XX := blk_keep XX hb
              have PP := blk_keep PP hb
              clear hb cp
              have ho : errF j (x :: L.drop (j + 1)) = if (parseF j x).2.2 ≠ 0 then (parseF j x).2.2 else errF (j + 1) (L.drop (j + 1)) := rfl
              rw [HO2] at ho
              clear HO2
              generalize parseF j x = p at *
              obtain ⟨t, u, er⟩ := p
              have Ho := Lib.hid ho
              have HS := Lib.hid hs
              clear ho hs
              have xl := blk_lt XX
              have rl := blk_lt RR
              by_cases he : er = 0
              · subst he
                have Hn := Lib.hid (show errF (j + 1) (L.drop (j + 1)) = errF 0 L by rw [Ho.out, if_neg (by simp)])
                clear Ho
                have xf := blk_free XX
                obtain ⟨v0, xc0⟩ : ∃ v, w4.cell? ⟨bx, j * 2, none⟩ = some v := ⟨_, (blk_cell XX _).trans (Array.getElem?_eq_getElem (show j * 2 < (xcells L j).size by simp [xcells]; omega))⟩
                obtain ⟨v1, xc1⟩ : ∃ v, w4.cell? ⟨bx, j * 2 + 1, none⟩ = some v := ⟨_, (blk_cell XX _).trans (Array.getElem?_eq_getElem (show j * 2 + 1 < (xcells L j).size by simp [xcells]; omega))⟩
                go_wp2
                go_roundg (gk - 1)
                case measure => omega
                case rel =>
                  refine ⟨j + 1, by go_num, by omega, by omega, Hn.out, al ((B.setCell n3 _).setCell n3 _) _, blk_alloc (blk_other (blk_other RR n1 _) n1 _), ?_, blk_alloc (blk_other (blk_other PP n2 _) n2 _)⟩
                  rw [← HS.out]
                  exact blk_alloc (blk_setg (blk_setg XX _ _) _ _)
              · have hne : (er != 0) = true := by simpa using he
                have HV3 := Lib.hid (HV2.out.trans (show fieldsF L = (exZ, er) by unfold fieldsF; rw [Ho.out, if_pos he, if_pos he]))
                clear he
                have RR := blk_alloc (o' := .cells #[.int .u64 t, .bool u] 40) RR
                have B := al B (.cells #[.int .u64 t, .bool u] 40)
                clear XX PP xl HO HX HSZ Ho HV2
                go_wp2_with ((conv in (World.alloc w4 (Obj.cells #[.int .u64 t, .bool u] 40)) => skip); generalize World.alloc w4 (Obj.cells #[.int .u64 t, .bool u] 40) = W5 at *; have rc := blk_cell RR; have rf := blk_free RR; have rl := blk_lt RR)
                exact bodyPost_ret (v := .tuple #[exV exZ, .int .i64 er]) (by simp [results, Tryz.results96, go_sem, rc]) rfl ⟨by rw [HV3.out], by go_grown⟩
            · have hj5 : j = 5 := by omega
              subst hj5
              have ho := HO.out
              rw [List.drop_eq_nil_of_le (by omega)] at ho
              have HV3 := Lib.hid (HV2.out.trans (show fieldsF L = (exOf L, 0) by unfold fieldsF; rw [← ho, if_neg (by simp [errF])]))
              clear HO ho HV2 HSZ
              have XX : wr.heap[bx]? = some (exO (exOf L)) := XX
              generalize exOf L = q at *
              have rc := blk_cell RR
              have rf := blk_free RR
              have xc := blk_cell XX
              go_wp2
              exact bodyPost_ret (v := .tuple #[exV q, .int .i64 0]) (by simp [results, Tryz.results96, go_sem, rc]) rfl ⟨by rw [HV3.out], by go_grown⟩
    · rw [partsF_ne hl] at HV
      have hl' : ((L.length : Int) != 5) = true := by simp; omega
      clear PP
      go_wp2
      exact bodyPost_ret (v := .tuple #[exV exZ, .int .i64 70]) (by simp [results, Tryz.results96, go_sem, rc]) rfl ⟨by rw [HV.out], by go_grown⟩
  · have e1 : nameS s = namedF s := by unfold nameS; rw [hp]; rfl
    rw [e1] at HV hn
    clear hp e1
    go_wp2_with fail
    first
      | refine (named_any _ _).mono ?_
        rintro e w3 ⟨rfl, hw⟩
        obtain rfl : w2 = w3 := hw.symm
        go_wp2_with fail
      | skip
    refine (ssplit_any _ 32 _ (by omega) (env_keep HE.out B)).mono ?_
    rintro e w3 ⟨rfl, rfl⟩
    have hsz := splitL_size (namedF s) 32
    generalize splitL _ 32 = L at *
    have np := blk_lt RR
    have PP := blk_new w2 (.cells (L.map Value.string).toArray 9)
    have B := al B (.cells (L.map Value.string).toArray 9)
    have RR := blk_alloc (o' := .cells (L.map Value.string).toArray 9) RR
    generalize w2.alloc (.cells (L.map Value.string).toArray 9) = W3 at *
    generalize w2.heap.size = bp at *
    have rc := blk_cell RR
    have rf := blk_free RR
    have rl := blk_lt RR
    by_cases hl : L.length = 5
    · have HSZ := Lib.hid (fun x (h : x ∈ L) => Nat.le_trans (hsz x h) hn)
      clear hsz
      go_wp2_with fail
      go_loopg [28] 10 (fun g iv wr => ∃ (j : Nat), iv = .int .i64 j ∧ j ≤ 5 ∧ 5 - j ≤ g ∧ Aside ((L.take j).any emptyB = false) ∧ W3 = wr)
      case atStart => exact ⟨0, rfl, by omega, by omega, rfl, rfl⟩
      case round =>
        obtain ⟨j, rfl, hj, hg, hO, rfl⟩ := hrel
        have HO := Lib.hid hO
        clear hO
        by_cases hlt : j < 5
        · have hlt2 : j < L.length := by omega
          have cp : W3.cell? ⟨bp, j, none⟩ = some (.string L[j]) := by rw [blk_cell PP]; simp [hlt2]
          rcases qe : emptyB L[j]
          · have ze := empty_no qe
            have HO2 := Lib.hid (show (L.take (j + 1)).any emptyB = false by rw [List.take_succ_eq_append_getElem hlt2, List.any_append, HO.out]; simp [qe])
            clear qe
            go_wp2
            go_roundg (gk - 1)
            case measure => omega
            case rel => exact ⟨j + 1, by go_num, by omega, by omega, HO2.out, rfl⟩
          · have z := empty_yes qe
            have HV2 := Lib.hid (HV.out.trans (show partsF L = (exZ, 70) by unfold partsF; rw [if_pos (Or.inr (List.any_eq_true.2 ⟨_, List.getElem_mem hlt2, qe⟩))]))
            rw [z] at cp
            clear z qe
            go_wp2
            exact bodyPost_ret (v := .tuple #[exV exZ, .int .i64 70]) (by simp [results, Tryz.results96, go_sem, rc]) rfl ⟨by rw [HV2.out], by go_grown⟩
        · have hj5 : j = 5 := by omega
          subst hj5
          have ho := HO.out
          rw [List.take_of_length_le (by omega)] at ho
          have HV2 := Lib.hid (HV.out.trans (show partsF L = fieldsF L by unfold partsF; rw [if_neg (by rintro (h | h); exact h hl; rw [ho] at h; cases h)]))
          clear HO ho HV rc rf
          have XX := blk_new W3 (exO exZ)
          have np2 := blk_lt PP
          have B := al B (exO exZ)
          have RR := blk_alloc (o' := exO exZ) RR
          have PP := blk_alloc (o' := exO exZ) PP
          go_wp2_with fail
          generalize W3.alloc (exO exZ) = W at *
          generalize W3.heap.size = bx at *
          have n1 : w.heap.size ≠ bx := by omega
          have n2 : bp ≠ bx := by omega
          have n3 : w.heap.size ≤ bx := by omega
          go_loopg [38] 10 (fun g iv wr => ∃ (j : Nat), iv = .int .i64 j ∧ j ≤ 5 ∧ 5 - j ≤ g ∧ Aside (errF j (L.drop j) = errF 0 L) ∧ Below w.heap.size w wr ∧ wr.heap[w.heap.size]? = some (exO exZ) ∧ wr.heap[bx]? = some (.cells (xcells L j) 42 (0, 0)) ∧ wr.heap[bp]? = some (.cells (L.map Value.string).toArray 9))
          case atStart => exact ⟨0, rfl, by omega, by omega, rfl, B, RR, XX, PP⟩
          case round =>
            obtain ⟨j, rfl, hj, hg, hO, B, RR, XX, PP⟩ := hrel
            have HO := Lib.hid hO
            clear hO
            by_cases hlt : j < 5
            · have hlt2 : j < L.length := by omega
              have cp : wr.cell? ⟨bp, j, none⟩ = some (.string L[j]) := by rw [blk_cell PP]; simp [hlt2]
              have hx : L.drop j = L[j] :: L.drop (j + 1) := List.drop_eq_getElem_cons hlt2
              have hgd : fld L j = parseF j L[j] := by unfold fld; rw [List.getD_eq_getElem?_getD, List.getElem?_eq_getElem hlt2]; rfl
              have hxs := HSZ.out _ (List.getElem_mem hlt2)
              have hs := xcells_set L j hlt
              rw [hgd] at hs
              have HO2 := HO.out
              rw [hx] at HO2
              generalize L[j] = x at *
              have HX := Lib.hid hx
              clear hx hgd
              go_wp2_with fail
              refine (fparse_any j x _ hxs (env_keep HE.out B) (by omega) (by omega)).mono ?_
              rintro e w4 ⟨rfl, hb⟩
              have B := vi B hb
              have RR := blk_keep RR hb
              have XX := blk_keep XX hb
              have PP := blk_keep PP hb
              clear hb cp
              have ho : errF j (x :: L.drop (j + 1)) = if (parseF j x).2.2 ≠ 0 then (parseF j x).2.2 else errF (j + 1) (L.drop (j + 1)) := rfl
              rw [HO2] at ho
              clear HO2
              generalize parseF j x = p at *
              obtain ⟨t, u, er⟩ := p
              have Ho := Lib.hid ho
              have HS := Lib.hid hs
              clear ho hs
              have xl := blk_lt XX
              have rl := blk_lt RR
              by_cases he : er = 0
              · subst he
                have Hn := Lib.hid (show errF (j + 1) (L.drop (j + 1)) = errF 0 L by rw [Ho.out, if_neg (by simp)])
                clear Ho
                have xf := blk_free XX
                obtain ⟨v0, xc0⟩ : ∃ v, w4.cell? ⟨bx, j * 2, none⟩ = some v := ⟨_, (blk_cell XX _).trans (Array.getElem?_eq_getElem (show j * 2 < (xcells L j).size by simp [xcells]; omega))⟩
                obtain ⟨v1, xc1⟩ : ∃ v, w4.cell? ⟨bx, j * 2 + 1, none⟩ = some v := ⟨_, (blk_cell XX _).trans (Array.getElem?_eq_getElem (show j * 2 + 1 < (xcells L j).size by simp [xcells]; omega))⟩
                go_wp2
                go_roundg (gk - 1)
                case measure => omega
                case rel =>
                  refine ⟨j + 1, by go_num, by omega, by omega, Hn.out, al ((B.setCell n3 _).setCell n3 _) _, blk_alloc (blk_other (blk_other RR n1 _) n1 _), ?_, blk_alloc (blk_other (blk_other PP n2 _) n2 _)⟩
                  rw [← HS.out]
                  exact blk_alloc (blk_setg (blk_setg XX _ _) _ _)
              · have hne : (er != 0) = true := by simpa using he
                have HV3 := Lib.hid (HV2.out.trans (show fieldsF L = (exZ, er) by unfold fieldsF; rw [Ho.out, if_pos he, if_pos he]))
                clear he
                have RR := blk_alloc (o' := .cells #[.int .u64 t, .bool u] 40) RR
                have B := al B (.cells #[.int .u64 t, .bool u] 40)
                clear XX PP xl HO HX HSZ Ho HV2
                go_wp2_with ((conv in (World.alloc w4 (Obj.cells #[.int .u64 t, .bool u] 40)) => skip); generalize World.alloc w4 (Obj.cells #[.int .u64 t, .bool u] 40) = W5 at *; have rc := blk_cell RR; have rf := blk_free RR; have rl := blk_lt RR)
                exact bodyPost_ret (v := .tuple #[exV exZ, .int .i64 er]) (by simp [results, Tryz.results96, go_sem, rc]) rfl ⟨by rw [HV3.out], by go_grown⟩
            · have hj5 : j = 5 := by omega
              subst hj5
              have ho := HO.out
              rw [List.drop_eq_nil_of_le (by omega)] at ho
              have HV3 := Lib.hid (HV2.out.trans (show fieldsF L = (exOf L, 0) by unfold fieldsF; rw [← ho, if_neg (by simp [errF])]))
              clear HO ho HV2 HSZ
              have XX : wr.heap[bx]? = some (exO (exOf L)) := XX
              generalize exOf L = q at *
              have rc := blk_cell RR
              have rf := blk_free RR
              have xc := blk_cell XX
              go_wp2
              exact bodyPost_ret (v := .tuple #[exV q, .int .i64 0]) (by simp [results, Tryz.results96, go_sem, rc]) rfl ⟨by rw [HV3.out], by go_grown⟩
    · rw [partsF_ne hl] at HV
      have hl' : ((L.length : Int) != 5) = true := by simp; omega
      clear PP
      go_wp2
      exact bodyPost_ret (v := .tuple #[exV exZ, .int .i64 70]) (by simp [results, Tryz.results96, go_sem, rc]) rfl ⟨by rw [HV.out], by go_grown⟩
end Go.Proofs.YtceddjpaddcjiaaGreatDoor
