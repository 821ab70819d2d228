/- A part of the walk: what functions of the program do, over an abstract heap. -/
import Derived.Test.YtmoknllbpjpkmaaW16
namespace Go.Proofs.Ytmoknllbpjpkmaa.Zed
open Go TP
set_option linter.unusedVariables false
set_option linter.unusedSimpArgs false
set_option maxRecDepth 20000
namespace tfW17
theorem tf : (Try.prog.underlying 25 = some (.slice 2)) ∧ (el Try.prog 25 = some (none, 1)) ∧ (Try.prog.underlying 29 = some (.slice 102)) ∧ (el Try.prog 29 = some (none, 1)) ∧ (Try.prog.underlying 102 = some (.slice 107)) ∧ (el Try.prog 102 = some (none, 2)) ∧ (tk Try.prog 2 = some none) ∧ (tk Try.prog 29 = some none) ∧ (tk Try.prog 31 = some (some 1)) ∧ (tk Try.prog 51 = some none) ∧ (tk Try.prog 102 = some none) ∧ (tk Try.prog 107 = some (some 2)) ∧ (tk Try.prog 115 = some (some 3)) ∧ (cz Try.prog 2 = some 1) ∧ (bz Try.prog 2 = some 8) ∧ (cz Try.prog 102 = some 1) ∧ (bz Try.prog 102 = some 24) ∧ (cz Try.prog 107 = some 2) ∧ (bz Try.prog 107 = some 16) ∧ (zr Try.prog 2 = some (.int .i64 0)) ∧ (zr Try.prog 102 = some (.slice none 0 0)) ∧ (zr Try.prog 107 = some (.agg #[.int .i64 0, .int .i64 0])) ∧ (zr Try.prog 115 = some (.agg #[.slice none 0 0, .slice none 0 0, .slice none 0 0])) ∧ (fo Try.prog 31 0 = some (0, none)) ∧ (fo Try.prog 107 0 = some (0, none)) ∧ (fo Try.prog 107 1 = some (1, none)) ∧ (fo Try.prog 115 0 = some (0, none)) ∧ (fo Try.prog 115 1 = some (1, none)) ∧ (fo Try.prog 115 2 = some (2, none)) ∧ (el Try.prog 115 = none) ∧ (placesOf Try.prog 115 = some #[(0, 1), (1, 1), (2, 1)]) := by
  refine ⟨?_, ?_, ?_, ?_, ?_, ?_, ?_, ?_, ?_, ?_, ?_, ?_, ?_, ?_, ?_, ?_, ?_, ?_, ?_, ?_, ?_, ?_, ?_, ?_, ?_, ?_, ?_, ?_, ?_, ?_, ?_⟩ <;> kernel_rfl
end tfW17
open tfW17

/-- The three rows of marks. -/
def CM (Hb : Heap) (gv ge gf : Nat) (H : Heap) (mv me mf : List Int) : Prop := Hb.size ≤ gv ∧ gv < ge ∧ ge < gf ∧ gf < H.size ∧ H.get gv = .cells (ints mv) 1 false ∧ H.get ge = .cells (ints me) 1 false ∧ H.get gf = .cells (ints mf) 1 false ∧ Ext Hb H
theorem CM.ext {Hb H H' : Heap} {gv ge gf : Nat} {mv me mf : List Int} (h : CM Hb gv ge gf H mv me mf) (k : Ext H H') : CM Hb gv ge gf H' mv me mf := by
  obtain ⟨h1, h2, h3, h4, h5, h6, h7, h8⟩ := h
  exact ⟨h1, h2, h3, Nat.lt_of_lt_of_le h4 k.size, by rw [k.get _ (by omega), h5], by rw [k.get _ (by omega), h6], by rw [k.get _ h4, h7], h8.trans k⟩
theorem CM.setv {Hb H : Heap} {gv ge gf : Nat} {mv me mf : List Int} (h : CM Hb gv ge gf H mv me mf) (m : List Int) : CM Hb gv ge gf (H.set gv (.cells (ints m) 1 false)) m me mf := by
  obtain ⟨h1, h2, h3, h4, h5, h6, h7, h8⟩ := h
  exact ⟨h1, h2, h3, h4, get_set_eq, (get_set_ne (by omega)).trans h6, (get_set_ne (by omega)).trans h7, h8.set _ h1⟩
theorem CM.sete {Hb H : Heap} {gv ge gf : Nat} {mv me mf : List Int} (h : CM Hb gv ge gf H mv me mf) (m : List Int) : CM Hb gv ge gf (H.set ge (.cells (ints m) 1 false)) mv m mf := by
  obtain ⟨h1, h2, h3, h4, h5, h6, h7, h8⟩ := h
  exact ⟨h1, h2, h3, h4, (get_set_ne (by omega)).trans h5, get_set_eq, (get_set_ne (by omega)).trans h7, h8.set _ (by omega)⟩
theorem CM.setf {Hb H : Heap} {gv ge gf : Nat} {mv me mf : List Int} (h : CM Hb gv ge gf H mv me mf) (m : List Int) : CM Hb gv ge gf (H.set gf (.cells (ints m) 1 false)) mv me m := by
  obtain ⟨h1, h2, h3, h4, h5, h6, h7, h8⟩ := h
  exact ⟨h1, h2, h3, h4, (get_set_ne (by omega)).trans h5, (get_set_ne (by omega)).trans h6, get_set_eq, h8.set _ (by omega)⟩
theorem jvertTo_len (m : List Int) (a f : Nat) (x : Int × Int) (k : Nat) : (jvertTo m a f x k).length = m.length := by
  induction k with
  | zero => rfl
  | succ k ih => unfold jvertTo; split <;> simp [ih, joinL_len]
theorem jedgeTo_len (m : List Int) (a f : Nat) (x : Int × Int) (k : Nat) : (jedgeTo m a f x k).length = m.length := by
  induction k with
  | zero => rfl
  | succ k ih => unfold jedgeTo; split <;> simp [ih, joinL_len]
theorem glF_len {step : List Int → Nat → Nat → Int × Int → List Int} (hs : ∀ s a f x, (step s a f x).length = s.length) (s : List Int) (a : Nat) (row : List (Int × Int)) (f : Nat) : (glF step s a row f).length = s.length :=
  glF_keep (Q := fun l => l.length = s.length) (fun l a f x h => (hs l a f x).trans h) s a row f rfl
theorem jl3 (s : List Int) (a f : Nat) (x : Int × Int) : (jvert s a f x).length = s.length ∧ (jedge s a f x).length = s.length ∧ (jface s a f x).length = s.length := ⟨jvertTo_len _ _ _ _ _, jedgeTo_len _ _ _ _ _, joinL_len _ _ _⟩
theorem glF_succ {step : List Int → Nat → Nat → Int × Int → List Int} {s : List Int} {a : Nat} {row : List (Int × Int)} {f : Nat} {t q : Int} (hx : row.getD f (0, 0) = (t, q)) : glF step s a row (f + 1) = if t < 0 then glF step s a row f else step (glF step s a row f) a f (t, q) := by
  rw [glF, hx]
abbrev cntV (T : List (List (Int × Int))) : Value := .tuple #[.agg #[FZ 1 T.length (rowsZ 4 (chunkR 4 T.length (vertL T))), FZ 1 T.length (rowsZ 6 (chunkR 6 T.length (edgeL T))), FZ 1 T.length (rowsZ 4 (chunkR 4 T.length (faceL T)))], FZ 1 4 (ints (countsL T))]
set_option maxHeartbeats 8000000 in
theorem l08Count_z {T : List (List (Int × Int))} (hF : Fine T) (hT : T.length ≠ 0) : ZCalls Try.prog 115 [zT T] (cntV T) := by
  have h8 := hF.1
  have h4 : ∀ a, a < T.length → (T.getD a []).length = 4 := fun a ha => (hF.2 a ha).1
  have hz4 := cntL_len (4 * T.length)
  have hz6 := cntL_len (6 * T.length)
  have hf4 : ∀ H, ACalls Try.prog 154 [I (4 * (T.length : Int))] H fun v H' => v = .slice (some ⟨H.size, 0, none⟩) (4 * T.length) 0 ∧ H' = H.push (.cells (ints (cntL (4 * T.length))) 1 false) := fun H => by
    have := l08Fresh_o (4 * T.length) (by omega) H
    rw [show ((4 * T.length : Nat) : Int) = 4 * (T.length : Int) by omega] at this
    exact this.mono fun v H' q => by rcases q with ⟨_, q, _⟩ | q; omega; exact q
  have hf6 : ∀ H, ACalls Try.prog 154 [I (6 * (T.length : Int))] H fun v H' => v = .slice (some ⟨H.size, 0, none⟩) (6 * T.length) 0 ∧ H' = H.push (.cells (ints (cntL (6 * T.length))) 1 false) := fun H => by
    have := l08Fresh_o (6 * T.length) (by omega) H
    rw [show ((6 * T.length : Nat) : Int) = 6 * (T.length : Int) by omega] at this
    exact this.mono fun v H' q => by rcases q with ⟨_, q, _⟩ | q; omega; exact q
  refine ZCalls.body Try.func115 rfl Try.ntmps115 (rs := [.cell 2 115, .tmp 3]) rfl (by simp) rfl fun H Q hQ A hA => ?_
  have a0 := hA 0 _ _ rfl
  clear hA
  repeat' first | refine roY ?_ | (first | refine ZCalls.to (l07Tets_z _ _ _) ?_ | refine ZCalls.tf (l07Tets_z _ _ _) ?_) | (refine (hf4 _).mono ?_; rintro u H1 ⟨rfl, rfl⟩) | (refine (hf6 _).mono ?_; rintro u H1 ⟨rfl, rfl⟩) | with_reducible refine And.intro (fun hc => ?_) (fun hc => ?_) | fail
  refine AWp.cut (fun Ac hAc => ?_)
  have c1 := gtY (t := 1) hAc
  have c2 := gtY (t := 2) hAc
  have c4 := gtY (t := 4) hAc
  have c5 := gtY (t := 5) hAc
  have c6 := gtY (t := 6) hAc
  have c7 := gtY (t := 7) hAc
  have c8 := gtY (t := 8) hAc
  clear a0 hf4 hf6
  obtain ⟨Hb, hHb⟩ : ∃ Hb : Heap, ((H.push (.cells [zL zP T] 1 false)).push (.cells [.slice none 0 0, .slice none 0 0, .slice none 0 0] 1 false)) = Hb := ⟨_, rfl⟩
  have hHbs : Hb.size = H.size + 1 + 1 := by rw [← hHb]; rfl
  have hHb0 : Hb.get H.size = .cells [zL zP T] 1 false := by rw [← hHb, get_push_lt (by rw [Heap.size_push]; omega), get_push_eq rfl]
  have hHb1 : Hb.get (H.size + 1) = .cells [.slice none 0 0, .slice none 0 0, .slice none 0 0] 1 false := by rw [← hHb]; exact get_push_eq rfl
  have hHbx : Ext H Hb := by rw [← hHb]; exact ((Ext.refl H).push _).push _
  rw [hHb]
  have hC0 : CM Hb (H.size + 1 + 1) (H.size + 1 + 1 + 1) (H.size + 1 + 1 + 1 + 1) (((Hb.push (.cells (ints (cntL (4 * T.length))) 1 false)).push (.cells (ints (cntL (6 * T.length))) 1 false)).push (.cells (ints (cntL (4 * T.length))) 1 false)) (cntL (4 * T.length)) (cntL (6 * T.length)) (cntL (4 * T.length)) :=
    ⟨by omega, by omega, by omega, by simp only [nx]; omega, by rw [get_push_lt (by simp only [nx]; omega), get_push_lt (by simp only [nx]; omega), get_push_eq (by omega)], by rw [get_push_lt (by simp only [nx]; omega), get_push_eq (by simp only [nx]; omega)], get_push_eq (by simp only [nx]; omega), (((Ext.refl Hb).push _).push _).push _⟩
  clear hHb
  refine AWp.loop (fun A' H' => ∃ (a : Nat), Ag [9, 10, 11, 12, 13, 14, 28, 29, 30, 31, 32, 33, 34, 35, 36, 37, 38, 39, 40, 41, 42, 43, 44, 45, 46, 47, 48, 49, 50, 51, 52, 53, 54, 55, 56, 57, 58, 59, 60, 61, 62, 63, 64, 65, 66, 67, 68, 69, 70, 71, 72, 73, 74, 75, 76, 77, 78, 79, 80, 81, 82, 83, 84, 85, 86, 87, 88, 89, 90, 91, 92, 93, 94, 95, 96, 97, 98, 99, 100, 101, 102, 103, 104, 105, 106, 107, 108, 109, 110, 111, 112, 113, 114, 115, 116, 117, 118] A' (put Ac (some 8) (I a)) ∧ a ≤ T.length ∧ CM Hb (H.size + 1 + 1) (H.size + 1 + 1 + 1) (H.size + 1 + 1 + 1 + 1) H' (glT jvert (cntL (4 * T.length)) T a) (glT jedge (cntL (6 * T.length)) T a) (glT jface (cntL (4 * T.length)) T a)) (fun A' _ => T.length - (intV (A' 8)).toNat) ?_ ?_
  · exact ⟨0, agY, by omega, hC0⟩
  · clear hC0
    rintro A1 H1 ⟨a, hA, ha, hC⟩
    have d1 := gdY (t := 1) hA
    have d2 := gdY (t := 2) hA
    have d4 := gdY (t := 4) hA
    have d5 := gdY (t := 5) hA
    have d6 := gdY (t := 6) hA
    have d7 := gdY (t := 7) hA
    have d8 := gdY (t := 8) hA
    by_cases hlt : a < T.length
    · have hl1 := (glT_len (step := jvert) (fun s a f x => (jl3 s a f x).1) (cntL (4 * T.length)) T a).trans hz4
      have hl2 := (glT_len (step := jedge) (fun s a f x => (jl3 s a f x).2.1) (cntL (6 * T.length)) T a).trans hz6
      have hl3 := (glT_len (step := jface) (fun s a f x => (jl3 s a f x).2.2) (cntL (4 * T.length)) T a).trans hz4
      have hs1 : glT jvert (cntL (4 * T.length)) T (a + 1) = glF jvert (glT jvert (cntL (4 * T.length)) T a) a (T.getD a []) 4 := rfl
      have hs2 : glT jedge (cntL (6 * T.length)) T (a + 1) = glF jedge (glT jedge (cntL (6 * T.length)) T a) a (T.getD a []) 4 := rfl
      have hs3 : glT jface (cntL (4 * T.length)) T (a + 1) = glF jface (glT jface (cntL (4 * T.length)) T a) a (T.getD a []) 4 := rfl
      generalize glT jvert (cntL (4 * T.length)) T a = mv at hC hl1 hs1
      generalize glT jedge (cntL (6 * T.length)) T a = me at hC hl2 hs2
      generalize glT jface (cntL (4 * T.length)) T a = mf at hC hl3 hs3
      have h4a := h4 a hlt
      have hfr := (hF.2 a hlt).2
      clear hz4 hz6
      repeat' first | refine roY ?_ | with_reducible refine And.intro (fun hc => ?_) (fun hc => ?_) | fail
      refine AWp.cut (fun Ae hAe => ?_)
      have e1 := gtY (t := 1) hAe
      have e2 := gtY (t := 2) hAe
      have e4 := gtY (t := 4) hAe
      have e5 := gtY (t := 5) hAe
      have e6 := gtY (t := 6) hAe
      have e7 := gtY (t := 7) hAe
      have e8 := gtY (t := 8) hAe
      have e9 := gtY (t := 9) hAe
      refine AWp.loop (fun A' H' => ∃ (f : Nat), Ag [10, 11, 12, 13, 14, 33, 34, 35, 36, 37, 38, 39, 40, 41, 42, 43, 44, 45, 46, 47, 48, 49, 50, 51, 52, 53, 54, 55, 56, 57, 58, 59, 60, 61, 62, 63, 64, 65, 66, 67, 68, 69, 70, 71, 72, 73, 74, 75, 76, 77, 78, 79, 80, 81, 82, 83, 84, 85, 86, 87, 88, 89, 90, 91, 92, 93, 94, 95, 96, 97, 98, 99, 100, 101, 102, 103, 104, 105, 106, 107, 108, 109, 110, 111, 112, 113, 114, 115, 116, 117, 118] A' (put Ae (some 9) (I f)) ∧ f ≤ 4 ∧ CM Hb (H.size + 1 + 1) (H.size + 1 + 1 + 1) (H.size + 1 + 1 + 1 + 1) H' (glF jvert mv a (T.getD a []) f) (glF jedge me a (T.getD a []) f) (glF jface mf a (T.getD a []) f)) (fun A' _ => 4 - (intV (A' 9)).toNat) ?_ ?_
      · exact ⟨0, agY, by omega, hC⟩
      · clear hC
        rintro A2 H2 ⟨f, hB, hf, hC⟩
        have f1 := gdY (t := 1) hB
        have f2 := gdY (t := 2) hB
        have f4 := gdY (t := 4) hB
        have f5 := gdY (t := 5) hB
        have f6 := gdY (t := 6) hB
        have f7 := gdY (t := 7) hB
        have f8 := gdY (t := 8) hB
        have f9 := gdY (t := 9) hB
        by_cases hff : f < 4
        · have hfine := hfr f hff
          obtain ⟨⟨t, q⟩, hfc⟩ : ∃ x, (T.getD a []).getD f (0, 0) = x := ⟨_, rfl⟩
          have hk1 := (glF_len (fun s a f x => (jl3 s a f x).1) mv a (T.getD a []) f).trans hl1
          have hk2 := (glF_len (fun s a f x => (jl3 s a f x).2.1) me a (T.getD a []) f).trans hl2
          have hk3 := (glF_len (fun s a f x => (jl3 s a f x).2.2) mf a (T.getD a []) f).trans hl3
          have hn1 : glF jvert mv a (T.getD a []) (f + 1) = if t < 0 then glF jvert mv a (T.getD a []) f else jvert (glF jvert mv a (T.getD a []) f) a f (t, q) := glF_succ hfc
          have hn2 : glF jedge me a (T.getD a []) (f + 1) = if t < 0 then glF jedge me a (T.getD a []) f else jedge (glF jedge me a (T.getD a []) f) a f (t, q) := glF_succ hfc
          have hn3 : glF jface mf a (T.getD a []) (f + 1) = if t < 0 then glF jface mf a (T.getD a []) f else jface (glF jface mf a (T.getD a []) f) a f (t, q) := glF_succ hfc
          rw [hfc] at hfine
          dsimp only at hfine
          have hx0 : Ext Hb H2 := hC.2.2.2.2.2.2.2
          have hxs := hx0.size
          have hbox := (hx0.get H.size (by omega)).trans hHb0
          generalize glF jvert mv a (T.getD a []) f = nv at hC hk1 hn1
          generalize glF jedge me a (T.getD a []) f = ne at hC hk2 hn2
          generalize glF jface mf a (T.getD a []) f = nf at hC hk3 hn3
          have hgs := hC.2.2.2.1
          by_cases hneg : t < 0
          · rw [if_pos hneg] at hn1 hn2 hn3
            repeat' first | refine roY ?_ | with_reducible refine And.intro (fun hc => ?_) (fun hc => ?_) | fail
            exact ⟨⟨f + 1, agY, by omega, by rw [hn1, hn2, hn3]; exact hC.ext (by exact exY)⟩, by exact ivY⟩
          · rw [if_neg hneg] at hn1 hn2 hn3
            obtain ⟨t1, q0, q1⟩ := hfine (by omega)
            obtain ⟨tn, rfl⟩ : ∃ tn : Nat, t = tn := ⟨t.toNat, by omega⟩
            clear hfine
            obtain ⟨z, hz⟩ : ∃ z : Nat, pm q f = (z : Int) := ⟨(pm q f).toNat, by have := pm_bd q f q0 q1 (by omega) (by omega); omega⟩
            have hzb := pm_bd q f q0 q1 (by omega) (by omega)
            have hat := l06At_z q f q0 q1 (by omega) (by omega)
            rw [hz] at hzb hat
            have hsf : jface nf a f ((tn : Int), q) = joinL nf (4 * (a : Int) + f).toNat (4 * (tn : Int) + z).toNat := by
              show joinL nf (4 * a + f) (4 * (tn : Int) + pm q f).toNat = _
              rw [hz]; congr 1
            have hgf := hC.2.2.2.2.2.2.1
            repeat' first | refine roY ?_ | with_reducible refine And.intro (fun hc => ?_) (fun hc => ?_) | fail
            refine AWp.zreg [(0, none), (1, none), (2, none), (3, none), (4, none), (5, none), (6, none), (7, none), (8, none), (9, none), (10, none), (11, none), (12, none), (13, some [6, 9])] mixed (by kernel_rfl) ?_
            repeat' first | refine rzY ?_ | (first | refine ZCalls.to (hat) ?_ | refine ZCalls.tf (hat) ?_) | (refine (l08Join_c (l := nf) (by rw [get_push_lt hgs, hgf]) hk3 (by omega) (by omega) (by omega) (by omega) (by omega)).mono ?_; rintro v H4 ⟨rfl, rfl⟩; refine hgY ?_) | fail
            have hkf : (jface nf a f ((tn : Int), q)).length = 4 * T.length := (jl3 _ _ _ _).2.2.trans hk3
            rw [hsf] at hkf
            have hCf := (hC.setf (joinL nf (4 * (a : Int) + f).toNat (4 * (tn : Int) + z).toNat)).ext ((Ext.refl _).push (.cells [I tn, I q] 1 false))
            have hbt : ((H2.set (H.size + 1 + 1 + 1 + 1) (.cells (ints (joinL nf (4 * (a : Int) + f).toNat (4 * (tn : Int) + z).toNat)) 1 false)).push (.cells [I tn, I q] 1 false)).get H2.size = .cells [I tn, I q] 1 false := get_push_eq rfl
            have hbs : H2.size < ((H2.set (H.size + 1 + 1 + 1 + 1) (.cells (ints (joinL nf (4 * (a : Int) + f).toNat (4 * (tn : Int) + z).toNat)) 1 false)).push (.cells [I tn, I q] 1 false)).size := by rw [Heap.size_push, Heap.size_set]; omega
            rw [hsf] at hn3
            generalize joinL nf (4 * (a : Int) + f).toNat (4 * (tn : Int) + z).toNat = nf' at hCf hbt hbs hkf hn3 ⊢
            clear hsf hz hzb hat hgf hC hbox
            repeat' first | refine roY ?_ | with_reducible refine And.intro (fun hc => ?_) (fun hc => ?_) | fail
            refine AWp.cut (fun As hAs => ?_)
            have s1 := gtY (t := 1) hAs
            have s2 := gtY (t := 2) hAs
            have s4 := gtY (t := 4) hAs
            have s5 := gtY (t := 5) hAs
            have s6 := gtY (t := 6) hAs
            have s7 := gtY (t := 7) hAs
            have s8 := gtY (t := 8) hAs
            have s9 := gtY (t := 9) hAs
            have s10 := gtY (t := 10) hAs
            have s11 := gtY (t := 11) hAs
            refine AWp.loop (fun A' H' => ∃ (j : Nat), Ag [62, 63, 64, 65, 66, 67, 68, 69, 70, 71, 72, 73, 74, 75, 76, 77, 78, 79, 80, 81, 82] A' (put As (some 11) (I j)) ∧ j ≤ 4 ∧ CM Hb (H.size + 1 + 1) (H.size + 1 + 1 + 1) (H.size + 1 + 1 + 1 + 1) H' (jvertTo nv a f ((tn : Int), q) j) ne nf' ∧ H'.get H2.size = .cells [I tn, I q] 1 false ∧ H2.size < H'.size) (fun A' _ => 4 - (intV (A' 11)).toNat) ?_ ?_
            · refine ⟨0, agY, by omega, ?_, ?_, ?_⟩
              · exact hCf
              · exact hbt
              · exact hbs
            · clear hCf hbt hbs
              rintro A3 H3 ⟨j, hD, hj, hC, hbt, hbs⟩
              have u1 := gdY (t := 1) hD
              have u2 := gdY (t := 2) hD
              have u4 := gdY (t := 4) hD
              have u5 := gdY (t := 5) hD
              have u6 := gdY (t := 6) hD
              have u7 := gdY (t := 7) hD
              have u8 := gdY (t := 8) hD
              have u9 := gdY (t := 9) hD
              have u10 := gdY (t := 10) hD
              have u11 := gdY (t := 11) hD
              have hkj := (jvertTo_len nv a f ((tn : Int), q) j).trans hk1
              by_cases hj4 : j < 4
              · have hgvj := hC.2.2.2.2.1
                have hst : jvertTo nv a f ((tn : Int), q) (j + 1) = if j = f then jvertTo nv a f ((tn : Int), q) j else joinL (jvertTo nv a f ((tn : Int), q) j) (4 * a + j) (4 * (tn : Int) + pm q j).toNat := rfl
                generalize jvertTo nv a f ((tn : Int), q) j = mj at hC hkj hst hgvj
                by_cases hjf : j = f
                · have hjb : ((j : Int) == (f : Int)) = true := by rw [hjf]; simp
                  rw [if_pos hjf] at hst
                  clear hjf
                  repeat' first | refine roY ?_ | with_reducible refine And.intro (fun hc => ?_) (fun hc => ?_) | fail
                  exact ⟨⟨j + 1, agY, by omega, by rw [hst]; exact hC, hbt, hbs⟩, by exact ivY⟩
                · have hjb : ((j : Int) == (f : Int)) = false := by rw [beq_eq_false_iff_ne]; omega
                  rw [if_neg hjf] at hst
                  obtain ⟨z, hz⟩ : ∃ z : Nat, pm q j = (z : Int) := ⟨(pm q j).toNat, by have := pm_bd q j q0 q1 (by omega) (by omega); omega⟩
                  have hzb := pm_bd q j q0 q1 (by omega) (by omega)
                  have hat := l06At_z q j q0 q1 (by omega) (by omega)
                  rw [hz] at hzb hst hat
                  have hst2 : jvertTo nv a f ((tn : Int), q) (j + 1) = joinL mj (4 * (a : Int) + j).toNat (4 * (tn : Int) + z).toNat := by rw [hst]; congr 1
                  clear hst hjf
                  repeat' first | refine roY ?_ | with_reducible refine And.intro (fun hc => ?_) (fun hc => ?_) | fail
                  refine AWp.zreg [(0, none), (1, none), (2, none), (3, none), (4, none), (5, none), (6, none), (7, none), (8, none), (9, none), (10, none), (11, none), (12, none), (13, some [6, 9])] mixed (by kernel_rfl) ?_
                  repeat' first | refine rzY ?_ | (first | refine ZCalls.to (hat) ?_ | refine ZCalls.tf (hat) ?_) | (refine (l08Join_c (l := mj) hgvj hkj (by omega) (by omega) (by omega) (by omega) (by omega)).mono ?_; rintro v H4 ⟨rfl, rfl⟩; refine hgY ?_) | fail
                  repeat' first | refine roY ?_ | with_reducible refine And.intro (fun hc => ?_) (fun hc => ?_) | fail
                  exact ⟨⟨j + 1, agY, by omega, by rw [hst2]; exact hC.setv _, by rw [get_set_ne (by omega)]; exact hbt, by rw [Heap.size_set]; exact hbs⟩, by exact ivY⟩
              · obtain rfl : j = 4 := by omega
                have hjv : jvertTo nv a f ((tn : Int), q) 4 = jvert nv a f ((tn : Int), q) := rfl
                rw [hjv] at hC hkj
                generalize jvert nv a f ((tn : Int), q) = nv' at hC hkj hn1
                clear hjv
                repeat' first | refine roY ?_ | with_reducible refine And.intro (fun hc => ?_) (fun hc => ?_) | fail
                refine AWp.cut (fun Av hAv => ?_)
                have v1 := gtY (t := 1) hAv
                have v2 := gtY (t := 2) hAv
                have v4 := gtY (t := 4) hAv
                have v5 := gtY (t := 5) hAv
                have v6 := gtY (t := 6) hAv
                have v7 := gtY (t := 7) hAv
                have v8 := gtY (t := 8) hAv
                have v9 := gtY (t := 9) hAv
                have v10 := gtY (t := 10) hAv
                have v12 := gtY (t := 12) hAv
                refine AWp.loop (fun A' H' => ∃ (j : Nat), Ag [13, 14, 83, 84, 85, 86, 87, 88, 89, 90, 91, 92, 93, 94, 95, 96, 97, 98, 99, 100, 101, 102, 103, 104, 105, 106, 107, 108, 109, 110, 111, 112, 113, 114, 115, 116, 117, 118] A' (put Av (some 12) (I j)) ∧ j ≤ 6 ∧ CM Hb (H.size + 1 + 1) (H.size + 1 + 1 + 1) (H.size + 1 + 1 + 1 + 1) H' nv' (jedgeTo ne a f ((tn : Int), q) j) nf' ∧ H'.get H2.size = .cells [I tn, I q] 1 false ∧ H2.size < H'.size) (fun A' _ => 6 - (intV (A' 12)).toNat) ?_ ?_
                · exact ⟨0, agY, by omega, hC, hbt, hbs⟩
                · clear hC hbt hbs hkj
                  rintro A4 H4 ⟨j, hE, hj, hC, hbt, hbs⟩
                  have w1 := gdY (t := 1) hE
                  have w2 := gdY (t := 2) hE
                  have w4 := gdY (t := 4) hE
                  have w5 := gdY (t := 5) hE
                  have w6 := gdY (t := 6) hE
                  have w7 := gdY (t := 7) hE
                  have w8 := gdY (t := 8) hE
                  have w9 := gdY (t := 9) hE
                  have w10 := gdY (t := 10) hE
                  have w12 := gdY (t := 12) hE
                  have hkj := (jedgeTo_len ne a f ((tn : Int), q) j).trans hk2
                  by_cases hj6 : j < 6
                  · have hgej := hC.2.2.2.2.2.1
                    have hst : jedgeTo ne a f ((tn : Int), q) (j + 1) = if endA j ≠ f ∧ endB j ≠ f then joinL (jedgeTo ne a f ((tn : Int), q) j) (6 * a + j) (6 * (tn : Int) + edgeN (pm q (endA j)) (pm q (endB j))).toNat else jedgeTo ne a f ((tn : Int), q) j := rfl
                    generalize jedgeTo ne a f ((tn : Int), q) j = mj at hC hkj hst hgej
                    obtain ⟨x, y, hu, hw, hu4, hw4, huw⟩ := ends_bd j hj6
                    have hends := l08Ends_z j hj6
                    rw [hu, hw] at hst hends
                    have hee := edge_bd q j hj6 q0 q1
                    rw [hu, hw] at hee
                    clear hu hw
                    by_cases huf : x = f
                    · have hb1 : ((x : Int) == (f : Int)) = true := by rw [huf]; simp
                      rw [if_neg (by rw [huf]; simp)] at hst
                      clear huf
                      repeat' first | refine roY ?_ | (first | refine ZCalls.to (hends) ?_ | refine ZCalls.tf (hends) ?_) | with_reducible refine And.intro (fun hc => ?_) (fun hc => ?_) | fail
                      exact ⟨⟨j + 1, agY, by omega, by rw [hst]; exact hC, hbt, hbs⟩, by exact ivY⟩
                    · have hb1 : ((x : Int) == (f : Int)) = false := by rw [beq_eq_false_iff_ne]; omega
                      by_cases hwf : y = f
                      · have hb2 : ((y : Int) == (f : Int)) = true := by rw [hwf]; simp
                        rw [if_neg (by rw [hwf]; simp)] at hst
                        clear hwf huf
                        repeat' first | refine roY ?_ | (first | refine ZCalls.to (hends) ?_ | refine ZCalls.tf (hends) ?_) | with_reducible refine And.intro (fun hc => ?_) (fun hc => ?_) | fail
                        exact ⟨⟨j + 1, agY, by omega, by rw [hst]; exact hC, hbt, hbs⟩, by exact ivY⟩
                      · have hb2 : ((y : Int) == (f : Int)) = false := by rw [beq_eq_false_iff_ne]; omega
                        rw [if_pos ⟨by omega, by omega⟩] at hst
                        have hqu := pm_bd q x q0 q1 (by omega) (by omega)
                        have hqw := pm_bd q y q0 q1 (by omega) (by omega)
                        have hne : pm q x ≠ pm q y := by
                          have := pm_inj q x y q0 q1 hu4 hw4 huw
                          unfold pm; rw [Int.toNat_natCast, Int.toNat_natCast]; exact this
                        clear hwf huf
                        have hat1 := l06At_z q x q0 q1 (by omega) (by omega)
                        have hat2 := l06At_z q y q0 q1 (by omega) (by omega)
                        have hedge := l08Edge_z _ _ hqu.1 hqu.2 hqw.1 hqw.2 hne
                        generalize edgeN (pm q x) (pm q y) = en at hst hee hedge
                        have hst2 : jedgeTo ne a f ((tn : Int), q) (j + 1) = joinL mj (6 * (a : Int) + j).toNat (6 * (tn : Int) + en).toNat := by rw [hst]; congr 1
                        clear hst
                        repeat' first | refine roY ?_ | (first | refine ZCalls.to (hends) ?_ | refine ZCalls.tf (hends) ?_) | with_reducible refine And.intro (fun hc => ?_) (fun hc => ?_) | fail
                        refine AWp.zreg [(0, none), (1, none), (2, none), (3, none), (4, none), (5, none), (6, none), (7, none), (8, none), (9, none), (10, none), (11, none), (12, none), (13, none), (14, none), (15, none), (16, none), (17, none), (18, some [6, 9, 13])] mixed (by kernel_rfl) ?_
                        repeat' first | refine rzY ?_ | (first | refine ZCalls.to (hat1) ?_ | refine ZCalls.tf (hat1) ?_) | (first | refine ZCalls.to (hat2) ?_ | refine ZCalls.tf (hat2) ?_) | (first | refine ZCalls.to (hedge) ?_ | refine ZCalls.tf (hedge) ?_) | (refine (l08Join_c (l := mj) hgej hkj (by omega) (by omega) (by omega) (by omega) (by omega)).mono ?_; rintro v H5 ⟨rfl, rfl⟩; refine hgY ?_) | fail
                        repeat' first | refine roY ?_ | with_reducible refine And.intro (fun hc => ?_) (fun hc => ?_) | fail
                        exact ⟨⟨j + 1, agY, by omega, by rw [hst2]; exact hC.sete _, by rw [get_set_ne (by omega)]; exact hbt, by rw [Heap.size_set]; exact hbs⟩, by exact ivY⟩
                  · obtain rfl : j = 6 := by omega
                    have hC2 : CM Hb (H.size + 1 + 1) (H.size + 1 + 1 + 1) (H.size + 1 + 1 + 1 + 1) H4 nv' (jedge ne a f ((tn : Int), q)) nf' := hC
                    repeat' first | refine roY ?_ | with_reducible refine And.intro (fun hc => ?_) (fun hc => ?_) | fail
                    exact ⟨⟨f + 1, agY, by omega, by rw [hn1, hn2, hn3]; exact hC2⟩, by exact ivY⟩
        · obtain rfl : f = 4 := by omega
          repeat' first | refine roY ?_ | with_reducible refine And.intro (fun hc => ?_) (fun hc => ?_) | fail
          exact ⟨⟨a + 1, agY, by omega, by rw [hs1, hs2, hs3]; exact hC⟩, by exact ivY⟩
    · obtain rfl : a = T.length := by omega
      obtain ⟨⟨c1, l1⟩, ⟨c2, l2⟩, ⟨c3, l3⟩⟩ := marks_fine hF
      have e1 := vertL_is hF
      have e2 := edgeL_is hF
      have e3 := faceL_is hF
      change CM Hb _ _ _ H1 (markV T) (markE T) (markF T) at hC
      have hcL : countsL T = [(rank (markV T) (markV T).length : Int), rank (markE T) (markE T).length, rank (markF T) (markF T).length, T.length] := by
        unfold countsL; rw [e1.2, e2.2, e3.2]
      have hr1 := l08Rows_z (q := T.length) (w := 4) c3 (by omega) (by omega) l3 (by omega) (by omega)
      have hr2 := l08Rows_z (q := T.length) (w := 6) c2 (by omega) (by omega) l2 (by omega) (by omega)
      have hr3 := l08Rows_z (q := T.length) (w := 4) c1 (by omega) (by omega) l1 (by omega) (by omega)
      rw [← e1.1] at hr1
      rw [← e2.1] at hr2
      rw [← e3.1] at hr3
      rw [l1, l2, l3] at hcL
      clear e1 e2 e3
      generalize markV T = mv at *
      generalize markE T = me at *
      generalize markF T = mf at *
      obtain ⟨p1, p2, p3, p4, p5, p6, p7, p8⟩ := hC
      have hs8 := p8.size
      have hb1 := (p8.get (H.size + 1) (by omega)).trans hHb1
      have hb0 := (p8.get H.size (by omega)).trans hHb0
      refine AWp.freezeI (t := 5) (g := H.size + 1 + 1) mv (4 * T.length) (by exact ivY) p5 rfl rfl l3 ?_
      refine AWp.freezeI (t := 6) (g := H.size + 1 + 1 + 1) me (6 * T.length) (by exact ivY) (by rw [get_set_ne (by omega)]; exact p6) rfl rfl l2 ?_
      refine AWp.freezeI (t := 7) (g := H.size + 1 + 1 + 1 + 1) mf (4 * T.length) (by exact ivY) (by rw [get_set_ne (by omega), get_set_ne (by omega)]; exact p7) rfl rfl l1 ?_
      have hxz : Ext H (((H1.set (H.size + 1 + 1) .dead).set (H.size + 1 + 1 + 1) .dead).set (H.size + 1 + 1 + 1 + 1) .dead) := (((hHbx.trans p8).set _ (by omega)).set _ (by omega)).set _ (by omega)
      repeat' first | refine roY ?_ | (first | refine ZCalls.to (hr1) ?_ | refine ZCalls.tf (hr1) ?_) | (first | refine ZCalls.to (hr2) ?_ | refine ZCalls.tf (hr2) ?_) | (first | refine ZCalls.to (hr3) ?_ | refine ZCalls.tf (hr3) ?_) | with_reducible refine And.intro (fun hc => ?_) (fun hc => ?_) | fail
      refine hQ.out _ _ (FinV.tuple (l := [_, _]) (l' := [_, _]) rfl fun i x r hx hr => ?_) ?_
      · match i, hx, hr with
        | 0, hx, hr =>
          cases hx; cases hr
          exact .cl (Cl.agg (l := [_, _, _]) (Cl.cons (Cl.fz (Cl.map fun r => Cl.fz (Cl.ints r))) (Cl.cons (Cl.fz (Cl.map fun r => Cl.fz (Cl.ints r))) (Cl.cons (Cl.fz (Cl.map fun r => Cl.fz (Cl.ints r))) Cl.nil))))
        | 1, hx, hr =>
          cases hx; cases hr
          refine FinV.ints (l := countsL T) (rest := []) (by omega) ?_
          rw [List.append_nil, hcL]
          exact get_push_eq (by simp only [nx])
      · exact ((hxz.set _ (by omega)).push _).push _
set_option maxHeartbeats 2000000 in
theorem l08Count_nil : ZCalls Try.prog 115 [zT []] (cntV []) := by
  have hf : ZCalls Try.prog 154 [I 0] (FZ 1 0 []) := .zc (fun x hx => by cases hx) (l08Fresh_g 0 (by omega))
  have hr4 := l08Rows_z (m := []) (w := 4) (q := 0) (N := 0) (fun i hi => by simp at hi) (by omega) (by omega) rfl rfl (by omega)
  have hr6 := l08Rows_z (m := []) (w := 6) (q := 0) (N := 0) (fun i hi => by simp at hi) (by omega) (by omega) rfl rfl (by omega)
  have e4 : rowsZ 4 (chunkR 4 0 (numbers [])) = [] := rfl
  have e6 : rowsZ 6 (chunkR 6 0 (numbers [])) = [] := rfl
  have er : rank [] 0 = 0 := rfl
  rw [e4, er] at hr4
  rw [e6, er] at hr6
  have hcv : cntV [] = .tuple #[.agg #[FZ 1 0 [], FZ 1 0 [], FZ 1 0 []], FZ 1 4 (ints [0, 0, 0, 0])] := rfl
  rw [hcv]
  refine ZCalls.body Try.func115 rfl Try.ntmps115 (rs := [.cell 2 115, .tmp 3]) rfl (by simp) rfl fun H Q hQ A hA => ?_
  have a0 := hA 0 _ _ rfl
  clear hA
  repeat' first | refine roY ?_ | (first | refine ZCalls.to (l07Tets_z _ _ _) ?_ | refine ZCalls.tf (l07Tets_z _ _ _) ?_) | (first | refine ZCalls.to (hf) ?_ | refine ZCalls.tf (hf) ?_) | (refine AWp.unroll ?_) | (refine AIn.step ?_) | (first | refine ZCalls.to (hr4) ?_ | refine ZCalls.tf (hr4) ?_) | (first | refine ZCalls.to (hr6) ?_ | refine ZCalls.tf (hr6) ?_) | with_reducible refine And.intro (fun hc => ?_) (fun hc => ?_) | fail
  refine hQ.out _ _ (FinV.tuple (l := [_, _]) (l' := [_, _]) rfl fun i x r hx hr => ?_) (by exact exY)
  match i, hx, hr with
  | 0, hx, hr =>
    cases hx; cases hr
    exact .cl (Cl.agg (l := [_, _, _]) (Cl.cons (Cl.fz Cl.nil) (Cl.cons (Cl.fz Cl.nil) (Cl.cons (Cl.fz Cl.nil) Cl.nil))))
  | 1, hx, hr =>
    cases hx; cases hr
    exact FinV.ints (l := [0, 0, 0, 0]) (rest := []) (by omega) (get_push_eq (by simp only [nx]))
theorem specCount_z {T : List (List (Int × Int))} (hF : Fine T) : ZCalls Try.prog 115 [zT T] (cntV T) := by
  by_cases h : T.length = 0
  · obtain rfl : T = [] := List.eq_nil_of_length_eq_zero h
    exact l08Count_nil
  · exact l08Count_z hF h
end Go.Proofs.Ytmoknllbpjpkmaa.Zed
