/- A part of the walk: what functions of the program do, over an abstract heap. -/
import Derived.Test.YtibkopejnhihkaaX6
import Derived.Test.YtibkopejnhihkaaW21
import Derived.Test.YtibkopejnhihkaaX1
import Derived.Test.YtibkopejnhihkaaZedH
namespace Go.Proofs.Ytibkopejnhihkaa.Zed
open Go TP
set_option linter.unusedVariables false
set_option linter.unusedSimpArgs false
set_option maxRecDepth 20000
namespace tfX7
theorem tf : (Try.prog.underlying 27 = some (.slice 89)) ∧ (el Try.prog 27 = some (none, 1)) ∧ (Try.prog.underlying 36 = some (.slice 2)) ∧ (el Try.prog 36 = some (none, 1)) ∧ (Try.prog.underlying 44 = some (.slice 36)) ∧ (el Try.prog 44 = some (none, 1)) ∧ (Try.prog.underlying 83 = some (.slice 4)) ∧ (el Try.prog 83 = some (none, 1)) ∧ (Try.prog.underlying 89 = some (.slice 110)) ∧ (el Try.prog 89 = some (none, 2)) ∧ (tk Try.prog 2 = some none) ∧ (tk Try.prog 4 = some none) ∧ (tk Try.prog 27 = some none) ∧ (tk Try.prog 36 = some none) ∧ (tk Try.prog 89 = some none) ∧ (tk Try.prog 110 = some (some 2)) ∧ (cz Try.prog 2 = some 1) ∧ (bz Try.prog 2 = some 8) ∧ (cz Try.prog 4 = some 1) ∧ (bz Try.prog 4 = some 1) ∧ (cz Try.prog 36 = some 1) ∧ (bz Try.prog 36 = some 24) ∧ (cz Try.prog 89 = some 1) ∧ (bz Try.prog 89 = some 24) ∧ (cz Try.prog 110 = some 2) ∧ (bz Try.prog 110 = some 16) ∧ (zr Try.prog 2 = some (.int .i64 0)) ∧ (zr Try.prog 4 = some (.bool false)) ∧ (zr Try.prog 36 = some (.slice none 0 0)) ∧ (zr Try.prog 89 = some (.slice none 0 0)) ∧ (zr Try.prog 110 = some (.agg #[.int .i64 0, .int .i64 0])) ∧ (fo Try.prog 29 0 = some (0, none)) := by
  refine ⟨?_, ?_, ?_, ?_, ?_, ?_, ?_, ?_, ?_, ?_, ?_, ?_, ?_, ?_, ?_, ?_, ?_, ?_, ?_, ?_, ?_, ?_, ?_, ?_, ?_, ?_, ?_, ?_, ?_, ?_, ?_, ?_⟩ <;> kernel_rfl
end tfX7
open tfX7

set_option maxHeartbeats 2000000 in
theorem whereTrue_o {l : List Bool} {n : Nat} (hn : l.length = n) (hl : n ≤ 200000) : OCalls Try.prog 89 [FZ 1 n (bools l)] (zI (listTo l n)) := by
  have hbl := bools_len l
  refine OCalls.body Try.func89 rfl Try.ntmps89 (rs := [.tmp 2]) rfl (by simp) rfl fun H Q hQ A hA => ?_
  have a0 := hA 0 _ _ rfl
  clear hA
  repeat' first | refine rnY ?_ | with_reducible refine And.intro (fun hc => ?_) (fun hc => ?_) | fail
  refine AWp.grow (t := 3) 1 (by decide) (by exact ivY) ?_
  refine AWp.cut (fun Ac hAc => ?_)
  have c6 := gtY (t := 6) hAc
  have c7 := gtY (t := 7) hAc
  have c3 := gtY (t := 3) hAc
  have c8 := gtY (t := 8) hAc
  clear a0
  refine AWp.loop (fun A' H' => ∃ (k : Nat), Ag [4, 5, 9, 10, 11, 12, 13, 14, 15, 16, 17, 18] A' (put (put Ac (some 3) (GZ H.size 1 (listTo l k).length (ints (listTo l k)))) (some 8) (I k)) ∧ k ≤ n ∧ Ext (H.push (.tok (listTo l k).length 1)) H') (fun A' _ => n - (intV (A' 8)).toNat) ?_ ?_
  · have e0 : listTo l 0 = [] := rfl
    exact ⟨0, agY, by omega, by exact exY⟩
  · rintro A1 H1 ⟨k, hA, hk, hx⟩
    have d3 := gdY (t := 3) hA
    have d6 := gdY (t := 6) hA
    have d7 := gdY (t := 7) hA
    have d8 := gdY (t := 8) hA
    have hxg := hx.get; have hxs := hx.size; (try simp only [nx] at hxs)
    by_cases hlt : k < n
    · have hs1 := listTo_get l k
      have hll := listTo_len l k
      have hbg := bools_get (l := l) (i := k) (by omega)
      generalize listTo l k = L at *
      cases hb : l.getD k false
      · rw [if_neg (by rw [hb]; simp)] at hs1
        rw [hb] at hbg
        repeat' first | refine rnY ?_ | with_reducible refine And.intro (fun hc => ?_) (fun hc => ?_) | fail
        exact ⟨⟨k + 1, agY, by omega, by rw [hs1]; (exact exY)⟩, by exact ivY⟩
      · rw [if_pos hb] at hs1
        rw [hb] at hbg
        repeat' first | refine rnY ?_ | with_reducible refine And.intro (fun hc => ?_) (fun hc => ?_) | fail
        exact ⟨⟨k + 1, agY, by omega, by rw [hs1]; (exact exY)⟩, by exact ivY⟩
    · obtain rfl : k = n := by omega
      repeat' first | refine rnY ?_ | with_reducible refine And.intro (fun hc => ?_) (fun hc => ?_) | fail
      exact hQ.out _ _ (OwnL.gints (Nat.le_refl _) (by exact ivY) rfl) (by exact exY)
set_option maxHeartbeats 2000000 in
theorem boundaryFaces_z {T : List (List (Int × Int))} (h8 : T.length ≤ 8) (h4 : ∀ a, a < T.length → (T.getD a []).length = 4) : ZCalls Try.prog 87 [zT T] (zII (bfT T T.length)) := by
  refine ZCalls.body Try.func87 rfl Try.ntmps87 (rs := [.tmp 2]) rfl (by simp) rfl fun H Q hQ A hA => ?_
  have a0 := hA 0 _ _ rfl
  clear hA
  repeat' first | refine rnY ?_ | with_reducible refine And.intro (fun hc => ?_) (fun hc => ?_) | fail
  refine AWp.grow (t := 3) 1 (by decide) (by exact ivY) ?_
  refine AWp.cut (fun Ac hAc => ?_)
  have c9 := gtY (t := 9) hAc
  have c10 := gtY (t := 10) hAc
  have c3 := gtY (t := 3) hAc
  have c11 := gtY (t := 11) hAc
  clear a0
  refine AWp.loop (fun A' H' => ∃ (a : Nat), Ag [4, 5, 6, 7, 12, 13, 14, 15, 16, 17, 18, 19, 20, 21, 22, 23, 24, 25, 26, 27, 28, 29, 30, 31, 32] A' (put (put Ac (some 3) (GZ H.size 1 (bfT T a).length ((bfT T a).map fun r => zI r))) (some 11) (I a)) ∧ a ≤ T.length ∧ Ext (H.push (.tok (bfT T a).length 1)) H') (fun A' _ => T.length - (intV (A' 11)).toNat) ?_ ?_
  · have e0 : bfT T 0 = [] := rfl
    exact ⟨0, agY, by omega, by exact exY⟩
  · rintro A1 H1 ⟨a, hA, ha, hx⟩
    have d3 := gdY (t := 3) hA
    have d9 := gdY (t := 9) hA
    have d10 := gdY (t := 10) hA
    have d11 := gdY (t := 11) hA
    have hxg := hx.get; have hxs := hx.size; (try simp only [nx] at hxs)
    by_cases hlt : a < T.length
    · have hs1 : bfT T (a + 1) = bfF (bfT T a) a (T.getD a []) 4 := rfl
      have hbl := bfT_len T a
      have h4a := h4 a hlt
      generalize bfT T a = acc at hx hs1 hbl d3 hxg hA
      repeat' first | refine rnY ?_ | with_reducible refine And.intro (fun hc => ?_) (fun hc => ?_) | fail
      refine AWp.cut (fun Ae hAe => ?_)
      have e4 := gtY (t := 4) hAe
      have e9 := gtY (t := 9) hAe
      have e10 := gtY (t := 10) hAe
      have e11 := gtY (t := 11) hAe
      have e16 := gtY (t := 16) hAe
      have e17 := gtY (t := 17) hAe
      have e3 := gtY (t := 3) hAe
      have e18 := gtY (t := 18) hAe
      refine AWp.loop (fun A' H' => ∃ (f : Nat), Ag [6, 7, 19, 20, 21, 22, 23, 24, 25, 26, 27, 28, 29, 30, 31] A' (put (put Ae (some 3) (GZ H.size 1 (bfF acc a (T.getD a []) f).length ((bfF acc a (T.getD a []) f).map fun r => zI r))) (some 18) (I f)) ∧ f ≤ 4 ∧ Ext (H.push (.tok (bfF acc a (T.getD a []) f).length 1)) H') (fun A' _ => 4 - (intV (A' 18)).toNat) ?_ ?_
      · have e0 : bfF acc a (T.getD a []) 0 = acc := rfl
        exact ⟨0, agY, by omega, by rw [e0]; exact hx⟩
      · clear hx hxg hxs
        rintro A2 H2 ⟨f, hB, hf, hx⟩
        have f3 := gdY (t := 3) hB
        have f4 := gdY (t := 4) hB
        have f9 := gdY (t := 9) hB
        have f10 := gdY (t := 10) hB
        have f11 := gdY (t := 11) hB
        have f16 := gdY (t := 16) hB
        have f17 := gdY (t := 17) hB
        have f18 := gdY (t := 18) hB
        have hxg := hx.get; have hxs := hx.size; (try simp only [nx] at hxs)
        by_cases hff : f < 4
        · have hfl := bfF_len acc a (T.getD a []) f
          have hs2 : bfF acc a (T.getD a []) (f + 1) = if ((T.getD a []).getD f (0, 0)).1 < 0 then bfF acc a (T.getD a []) f ++ [[(a : Int), (f : Int)]] else bfF acc a (T.getD a []) f := rfl
          generalize bfF acc a (T.getD a []) f = R at hx f3 hxg hs2 hfl hB
          by_cases hq : ((T.getD a []).getD f (0, 0)).1 < 0
          · rw [if_pos hq] at hs2
            repeat' first | refine rnY ?_ | (first | refine ZCalls.to (isBoundary_z _ _) ?_ | refine ZCalls.tf (isBoundary_z _ _) ?_) | with_reducible refine And.intro (fun hc => ?_) (fun hc => ?_) | fail
            exact ⟨⟨f + 1, agY, by omega, by exact exY⟩, by exact ivY⟩
          · rw [if_neg hq] at hs2
            repeat' first | refine rnY ?_ | (first | refine ZCalls.to (isBoundary_z _ _) ?_ | refine ZCalls.tf (isBoundary_z _ _) ?_) | with_reducible refine And.intro (fun hc => ?_) (fun hc => ?_) | fail
            exact ⟨⟨f + 1, agY, by omega, by exact exY⟩, by exact ivY⟩
        · obtain rfl : f = 4 := by omega
          repeat' first | refine rnY ?_ | with_reducible refine And.intro (fun hc => ?_) (fun hc => ?_) | fail
          exact ⟨⟨a + 1, agY, by omega, by rw [hs1]; (exact exY)⟩, by exact ivY⟩
    · obtain rfl : a = T.length := by omega
      repeat' first | refine rnY ?_ | with_reducible refine And.intro (fun hc => ?_) (fun hc => ?_) | fail
      exact hQ.out _ _ (fv) (by exact exY)
/-- The vertex classes that the program marks. -/
def ivI (T : List (List (Int × Int))) (acc : List Int) (a f : Nat) : Nat → List Int
  | 0 => acc
  | k + 1 => ivI T acc a f k ++ [(vertL T).getD (a * 4 + ((othersL [(f : Int)]).getD k 0).toNat) 0]
def ibV (T : List (List (Int × Int))) (P : List (List Int)) : Nat → List Int
  | 0 => []
  | j + 1 => ivI T (ibV T P j) ((P.getD j []).getD 0 0).toNat ((P.getD j []).getD 1 0).toNat 3
theorem ivI_mem (T : List (List (Int × Int))) (acc : List Int) (a f : Nat) (x : Int) : ∀ m, (x ∈ ivI T acc a f m ↔ x ∈ acc ∨ ∃ k, k < m ∧ x = (vertL T).getD (a * 4 + ((othersL [(f : Int)]).getD k 0).toNat) 0)
  | 0 => by simp [ivI]
  | m + 1 => by
    rw [ivI, List.mem_append, ivI_mem T acc a f x m, List.mem_singleton]
    constructor
    · rintro ((h1 | ⟨k, h1, h2⟩) | h1)
      · exact .inl h1
      · exact .inr ⟨k, by omega, h2⟩
      · exact .inr ⟨m, by omega, h1⟩
    · rintro (h1 | ⟨k, h1, h2⟩)
      · exact .inl (.inl h1)
      · rcases Nat.lt_succ_iff_lt_or_eq.1 h1 with h4 | rfl
        · exact .inl (.inr ⟨k, h4, h2⟩)
        · exact .inr h2
theorem svI_mem (T : List (List (Int × Int))) (acc : List Int) (a f : Nat) (x : Int) : ∀ m, (x ∈ svI T acc a f m ↔ x ∈ acc ∨ ∃ k, k < m ∧ k ≠ f ∧ x = (vertL T).getD (a * 4 + k) 0)
  | 0 => by simp [svI]
  | m + 1 => by
    have ih := svI_mem T acc a f x m
    rw [svI]
    split
    · rename_i h
      rw [ih]
      constructor
      · rintro (h1 | ⟨k, h1, h2⟩)
        · exact .inl h1
        · exact .inr ⟨k, by omega, h2⟩
      · rintro (h1 | ⟨k, h1, h2, h3⟩)
        · exact .inl h1
        · rcases Nat.lt_succ_iff_lt_or_eq.1 h1 with h4 | rfl
          · exact .inr ⟨k, h4, h2, h3⟩
          · exact absurd h h2
    · rename_i h
      rw [List.mem_append, ih, List.mem_singleton]
      constructor
      · rintro ((h1 | ⟨k, h1, h2⟩) | h1)
        · exact .inl h1
        · exact .inr ⟨k, by omega, h2⟩
        · exact .inr ⟨m, by omega, h, h1⟩
      · rintro (h1 | ⟨k, h1, h2, h3⟩)
        · exact .inl (.inl h1)
        · rcases Nat.lt_succ_iff_lt_or_eq.1 h1 with h4 | rfl
          · exact .inl (.inr ⟨k, h4, h2, h3⟩)
          · exact .inr h3
theorem ol1 : ∀ f : Fin 4, (∀ k : Fin 3, ((othersL [(f.val : Int)]).getD k.val 0).toNat < 4 ∧ ((othersL [(f.val : Int)]).getD k.val 0).toNat ≠ f.val) ∧ ∀ v : Fin 4, v.val ≠ f.val → ∃ k : Fin 3, ((othersL [(f.val : Int)]).getD k.val 0).toNat = v.val := by decide +kernel
theorem vert_same (T : List (List (Int × Int))) {P : List (List Int)} (x : Int) : ∀ m, (∀ j, j < m → ((P.getD j []).getD 1 0).toNat < 4) → (x ∈ ibV T P m ↔ x ∈ sbV T P m)
  | 0, _ => Iff.rfl
  | m + 1, h => by
    have ih := vert_same T (P := P) x m fun j hj => h j (by omega)
    rw [ibV, sbV, ivI_mem, svI_mem, ih]
    refine or_congr_right ?_
    have hf := h m (by omega)
    generalize ((P.getD m []).getD 1 0).toNat = f at *
    generalize ((P.getD m []).getD 0 0).toNat = a at *
    obtain ⟨o1, o2⟩ := ol1 ⟨f, hf⟩
    constructor
    · rintro ⟨k, hk, e⟩
      obtain ⟨q1, q2⟩ := o1 ⟨k, hk⟩
      exact ⟨_, q1, q2, e⟩
    · rintro ⟨v, hv, hne, e⟩
      obtain ⟨k, hk⟩ := o2 ⟨v, hv⟩ hne
      refine ⟨k.1, k.2, ?_⟩
      dsimp only at hk
      rw [hk]; exact e
end Go.Proofs.Ytibkopejnhihkaa.Zed
