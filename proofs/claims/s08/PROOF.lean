import PyProof.Rows.All
import Wide.All
import OpenK.AllK
import Wide.FinOn
import Open.SpecLaws
import KE.OsHead
import KE.OsGo
import HandS.ForSpec
import HandS.Comp
import HandS.Iter
import HandS.Style
import HandS.Wide
import PySem.Challenge.RW_pagestraight_s08_st_bands
set_option Elab.async false
set_option linter.all false
set_option maxRecDepth 100000
set_option maxHeartbeats 2000000
namespace Pg
/-! ### plain laws of rows of numbers -/
theorem take_snoc {α : Type} {l : List α} {i : Nat} {x : α} (h : l[i]? = some x) : l.take (i + 1) = l.take i ++ [x] := by
  rw [List.take_add_one, h]
  rfl
/-- of the first so many neighbours the squares of how far they are apart -/
def sq (ns : List Nat) : Nat → Int
  | 0 => 0
  | i + 1 => sq ns i + ((ns.getD (i + 1) 0 : Nat) - (ns.getD i 0 : Nat) : Int) * ((ns.getD (i + 1) 0 : Nat) - (ns.getD i 0 : Nat) : Int)
theorem sq_apart (a b : Nat) : (((max a b - min a b) * (max a b - min a b) : Nat) : Int) = ((b : Int) - (a : Int)) * ((b : Int) - (a : Int)) := by
  rcases Nat.le_total a b with h | h
  · rw [Nat.max_eq_right h, Nat.min_eq_left h, Int.natCast_mul, Int.natCast_sub h]
  · rw [Nat.max_eq_left h, Nat.min_eq_right h, Int.natCast_mul, Int.natCast_sub h]
    rw [← Int.neg_sub (a : Int) (b : Int), Int.neg_mul_neg]
theorem sq_take (ns : List Nat) : ∀ i, i ≤ ns.length - 1 → ((((ns.zip (ns.drop 1)).take i).map fun p => (max p.1 p.2 - min p.1 p.2) * (max p.1 p.2 - min p.1 p.2)).sum : Nat) = sq ns i
  | 0, _ => by simp [sq]
  | i + 1, h => by
    have h1 : i < ns.length := by omega
    have h2 : i + 1 < ns.length := by omega
    have e : (ns.zip (ns.drop 1))[i]? = some (ns[i], ns[i + 1]) := by
      rw [List.getElem?_zip_eq_some]
      refine ⟨List.getElem?_eq_getElem h1, ?_⟩
      rw [List.getElem?_drop, Nat.add_comm 1 i]
      exact List.getElem?_eq_getElem h2
    rw [take_snoc e, List.map_append, List.sum_append, Int.natCast_add, sq_take ns i (by omega)]
    have z : (([(ns[i], ns[i + 1])].map fun p : Nat × Nat => (max p.1 p.2 - min p.1 p.2) * (max p.1 p.2 - min p.1 p.2)).sum : Nat) = (max ns[i] ns[i + 1] - min ns[i] ns[i + 1]) * (max ns[i] ns[i + 1] - min ns[i] ns[i + 1]) := by simp
    rw [z, sq_apart]
    show _ = sq ns i + _
    simp [List.getD_eq_getElem?_getD, h1, h2]
theorem sharp_is (ns : List Nat) : (Sh57.sharp ns : Int) = sq ns (ns.length - 1) := by
  rw [← sq_take ns (ns.length - 1) (Nat.le_refl _)]
  unfold Sh57.sharp
  rw [List.take_of_length_le (by rw [List.length_zip, List.length_drop]; omega)]

/-! ### pieces of a row of truths -/
/-- the pieces from place i on, s: where the open one begins -/
def pc : List Bool → Nat → Option Nat → List (Nat × Nat)
  | [], _, none => []
  | [], i, some s => [(s, i - s)]
  | true :: r, i, none => pc r (i + 1) (some i)
  | true :: r, i, some s => pc r (i + 1) (some s)
  | false :: r, i, none => pc r (i + 1) none
  | false :: r, i, some s => (s, i - s) :: pc r (i + 1) none
def gapF (most : Nat) (g : List (Nat × Nat)) (a : Nat × Nat) : List (Nat × Nat) := if most < a.1 then g else match g with
  | [] => [(a.2, 1)]
  | p :: q => if p.1 + p.2 = a.2 then (p.1, p.2 + 1) :: q else (a.2, 1) :: g
theorem gap_fold (most : Nat) : ∀ (l : List Nat) (i : Nat) (g : List (Nat × Nat)),
    ((∀ p q, g = p :: q → p.1 + p.2 < i) → ((l.zipIdx i).foldl (gapF most) g).reverse = g.reverse ++ pc (l.map fun n => decide (n ≤ most)) i none) ∧
    (∀ s q, g = (s, i - s) :: q → s < i → ((l.zipIdx i).foldl (gapF most) g).reverse = q.reverse ++ pc (l.map fun n => decide (n ≤ most)) i (some s))
  | [], i, g => by
    refine ⟨fun _ => by simp [pc], fun s q e _ => ?_⟩
    subst e
    simp [pc]
  | x :: l, i, g => by
    have ih := gap_fold most l (i + 1)
    refine ⟨fun h => ?_, fun s q e hs => ?_⟩
    · rw [List.zipIdx_cons, List.foldl_cons]
      by_cases hx : most < x
      · have e1 : gapF most g (x, i) = g := if_pos hx
        rw [e1, List.map_cons, decide_eq_false (by omega : ¬ x ≤ most)]
        exact (ih g).1 fun p q e => Nat.lt_succ_of_lt (h p q e)
      · have e1 : gapF most g (x, i) = (i, 1) :: g := by
          unfold gapF
          rw [if_neg hx]
          cases g with
          | nil => rfl
          | cons p q =>
            have z := h p q rfl
            exact if_neg (show ¬ p.1 + p.2 = i by omega)
        rw [e1, List.map_cons, decide_eq_true (by omega : x ≤ most)]
        exact (ih ((i, 1) :: g)).2 i g (by rw [Nat.add_sub_cancel_left]) (Nat.lt_succ_self _)
    · subst e
      rw [List.zipIdx_cons, List.foldl_cons]
      by_cases hx : most < x
      · have e1 : gapF most ((s, i - s) :: q) (x, i) = (s, i - s) :: q := if_pos hx
        rw [e1, List.map_cons, decide_eq_false (by omega : ¬ x ≤ most)]
        have z := (ih ((s, i - s) :: q)).1 fun p q e => by
          cases e
          show s + (i - s) < i + 1
          omega
        rw [z]
        simp [pc]
      · have e1 : gapF most ((s, i - s) :: q) (x, i) = (s, i + 1 - s) :: q := by
          unfold gapF
          rw [if_neg hx]
          show (if s + (i - s) = i then (s, i - s + 1) :: q else (i, 1) :: (s, i - s) :: q) = _
          rw [if_pos (by omega), show i - s + 1 = i + 1 - s by omega]
        rw [e1, List.map_cons, decide_eq_true (by omega : x ≤ most)]
        exact (ih ((s, i + 1 - s) :: q)).2 s q rfl (by omega)
theorem gaps_is (most : Nat) (l : List Nat) : Sh57.gaps most l = pc (l.map fun n => decide (n ≤ most)) 0 none :=
  ((gap_fold most l 0 []).1 fun p q e => nomatch e).trans (by simp)
theorem pc_end (i s : Nat) : pc [] i (some s) = [(s, i - s)] := rfl
/-- pieces that lie apart, from b on, up to n -/
def Sep (n : Nat) : Nat → List (Nat × Nat) → Prop
  | _, [] => True
  | b, c :: r => b ≤ c.1 ∧ 1 ≤ c.2 ∧ c.1 + c.2 ≤ n ∧ Sep n (c.1 + c.2) r
theorem Sep.weak {n : Nat} : ∀ {C : List (Nat × Nat)} {b b' : Nat}, Sep n b C → b' ≤ b → Sep n b' C
  | [], _, _, _, _ => trivial
  | _ :: _, _, _, h, hb => ⟨Nat.le_trans hb h.1, h.2⟩
theorem Sep.filter {n : Nat} (p : Nat × Nat → Bool) : ∀ {C : List (Nat × Nat)} {b : Nat}, Sep n b C → Sep n b (C.filter p)
  | [], _, _ => trivial
  | c :: r, b, h => by
    have ih := Sep.filter p h.2.2.2
    rw [List.filter_cons]
    by_cases hp : p c = true
    · rw [if_pos hp]
      exact ⟨h.1, h.2.1, h.2.2.1, ih⟩
    · rw [if_neg hp]
      exact ih.weak (by have := h.1; omega)
theorem pc_sep : ∀ (m : List Bool) (i n : Nat), i + m.length = n → Sep n i (pc m i none) ∧ ∀ s, s < i → Sep n s (pc m i (some s))
  | [], i, n, h => ⟨trivial, fun s hs => ⟨Nat.le_refl _, by show 1 ≤ i - s; omega, by have h : i + 0 = n := h; show s + (i - s) ≤ n; omega, trivial⟩⟩
  | true :: r, i, n, h => by
    have h : i + (r.length + 1) = n := h
    have ih := pc_sep r (i + 1) n (by omega)
    exact ⟨ih.2 i (Nat.lt_succ_self _), fun s hs => ih.2 s (by omega)⟩
  | false :: r, i, n, h => by
    have h : i + (r.length + 1) = n := h
    have ih := pc_sep r (i + 1) n (by omega)
    refine ⟨ih.1.weak (Nat.le_succ _), fun s hs => ⟨Nat.le_refl _, by show 1 ≤ i - s; omega, by show s + (i - s) ≤ n; omega, ?_⟩⟩
    show Sep n (s + (i - s)) (pc r (i + 1) none)
    exact ih.1.weak (by omega)
theorem gaps_sep (most : Nat) (l : List Nat) : Sep l.length 0 (Sh57.gaps most l) := by
  rw [gaps_is]
  exact (pc_sep _ 0 l.length (by simp)).1
/-- what lies between the pieces -/
def between (n : Nat) : Nat → List (Nat × Nat) → List (Nat × Nat)
  | b, [] => if b < n then [(b, n - b)] else []
  | b, c :: r => (if b < c.1 then [(b, c.1 - b)] else []) ++ between n (c.1 + c.2) r
theorem bands_is (n : Nat) : ∀ (C : List (Nat × Nat)) (b : Nat),
    ((((b :: C.map fun g => g.1 + g.2).zip ((C.map fun g => g.1) ++ [n])).filter fun p => decide (p.1 < p.2)).map fun p => (p.1, p.2 - p.1)) = between n b C
  | [], b => by
    by_cases h : b < n <;> simp [between, h]
  | c :: r, b => by
    have ih := bands_is n r (c.1 + c.2)
    unfold between
    rw [← ih]
    by_cases h : b < c.1 <;> simp [h]
/-- place i is in none of the pieces -/
def outside (C : List (Nat × Nat)) (i : Nat) : Bool := !(C.any fun c => decide (c.1 ≤ i) && decide (i < c.1 + c.2))
theorem pc_trues (r : List Bool) : ∀ (k i : Nat) (s : Nat), pc (List.replicate k true ++ r) i (some s) = pc r (i + k) (some s)
  | 0, i, s => rfl
  | k + 1, i, s => by
    rw [List.replicate_succ, List.cons_append]
    show pc (List.replicate k true ++ r) (i + 1) (some s) = _
    rw [pc_trues r k (i + 1) s, Nat.add_assoc, Nat.add_comm 1 k]
theorem pc_trues0 (r : List Bool) (k i : Nat) (h : 0 < k) : pc (List.replicate k true ++ r) i none = pc r (i + k) (some i) := by
  obtain ⟨j, rfl⟩ : ∃ j, k = j + 1 := ⟨k - 1, by omega⟩
  rw [List.replicate_succ, List.cons_append]
  show pc (List.replicate j true ++ r) (i + 1) (some i) = _
  rw [pc_trues, Nat.add_assoc, Nat.add_comm 1 j]
theorem pc_falses (r : List Bool) : ∀ (k i : Nat), pc (List.replicate k false ++ r) i none = pc r (i + k) none
  | 0, i => rfl
  | k + 1, i => by
    rw [List.replicate_succ, List.cons_append]
    show pc (List.replicate k false ++ r) (i + 1) none = _
    rw [pc_falses r k (i + 1), Nat.add_assoc, Nat.add_comm 1 k]
theorem pc_falses0 (r : List Bool) (k i s : Nat) (h : 0 < k) : pc (List.replicate k false ++ r) i (some s) = (s, i - s) :: pc r (i + k) none := by
  obtain ⟨j, rfl⟩ : ∃ j, k = j + 1 := ⟨k - 1, by omega⟩
  rw [List.replicate_succ, List.cons_append]
  show (s, i - s) :: pc (List.replicate j false ++ r) (i + 1) none = _
  rw [pc_falses, Nat.add_assoc, Nat.add_comm 1 j]
theorem map_rep {f : Nat → Bool} {v : Bool} (b k : Nat) (h : ∀ i, b ≤ i → i < b + k → f i = v) : (List.range' b k).map f = List.replicate k v := by
  rw [List.map_congr_left (g := fun _ => v), List.map_const', List.length_range']
  intro i hi
  obtain ⟨j, hj, rfl⟩ := List.mem_range'.mp hi
  exact h _ (by omega) (by omega)
theorem outside_nil (i : Nat) : outside [] i = true := rfl
theorem outside_cons (c : Nat × Nat) (C : List (Nat × Nat)) (i : Nat) : outside (c :: C) i = (!(decide (c.1 ≤ i) && decide (i < c.1 + c.2)) && outside C i) := by
  unfold outside
  rw [List.any_cons, Bool.not_or]
theorem outside_before {n : Nat} : ∀ {C : List (Nat × Nat)} {b : Nat}, Sep n b C → ∀ i, i < b → outside C i = true
  | [], _, _, _, _ => rfl
  | c :: r, b, h, i, hi => by
    have h1 : b ≤ c.1 := h.1
    rw [outside_cons, outside_before h.2.2.2 i (by omega), decide_eq_false (by omega : ¬ c.1 ≤ i)]
    rfl
theorem pc_outside (n : Nat) : ∀ (C : List (Nat × Nat)) (b : Nat), Sep n b C → b ≤ n → ∀ f : Nat → Bool, (∀ i, b ≤ i → f i = outside C i) → pc ((List.range' b (n - b)).map f) b none = between n b C
  | [], b, _, hb, f, hf => by
    rw [map_rep (v := true) b (n - b) fun i hi _ => hf i hi]
    unfold between
    by_cases h : b < n
    · rw [if_pos h]
      have z := pc_trues0 [] (n - b) b (by omega)
      rw [List.append_nil] at z
      rw [z, show b + (n - b) = n by omega]
      rfl
    · rw [if_neg h, show n - b = 0 by omega]
      rfl
  | c :: r, b, h, hb, f, hf => by
    obtain ⟨h1, h2, h3, h4⟩ := h
    have ih := pc_outside n r (c.1 + c.2) h4 h3 f fun i hi => by
      rw [hf i (by omega), outside_cons, decide_eq_false (by omega : ¬ i < c.1 + c.2), Bool.and_false]
      rfl
    have s1 : List.range' b (n - b) = List.range' b (c.1 - b) ++ (List.range' c.1 c.2 ++ List.range' (c.1 + c.2) (n - (c.1 + c.2))) := by
      rw [List.range'_append_1, show c.2 + (n - (c.1 + c.2)) = n - c.1 by omega]
      have z := List.range'_append_1 (s := b) (m := c.1 - b) (n := n - c.1)
      rw [show b + (c.1 - b) = c.1 by omega] at z
      rw [z, show c.1 - b + (n - c.1) = n - b by omega]
    rw [s1, List.map_append, List.map_append, map_rep (v := true) b (c.1 - b) fun i hi hi2 => ?_, map_rep (v := false) c.1 c.2 fun i hi hi2 => ?_]
    · unfold between
      by_cases hl : b < c.1
      · rw [if_pos hl, pc_trues0 _ _ _ (by omega), pc_falses0 _ _ _ _ (by omega), show b + (c.1 - b) = c.1 by omega, ih]
        rfl
      · rw [if_neg hl, show c.1 - b = 0 by omega]
        have hc : c.1 = b := by omega
        show pc (List.replicate c.2 false ++ _) b none = _
        rw [pc_falses, ← hc, ih]
        rfl
    · rw [hf i (by omega), outside_cons, decide_eq_true (by omega : c.1 ≤ i), decide_eq_true (by omega : i < c.1 + c.2)]
      rfl
    · rw [hf i hi, outside_cons, decide_eq_false (by omega : ¬ c.1 ≤ i), outside_before h4 i (by omega)]
      rfl
theorem bands_pc (most least : Nat) (l : List Nat) : Sh57.bands most least l = pc ((List.range l.length).map (outside ((Sh57.gaps most l).filter fun g => decide (least ≤ g.2)))) 0 none := by
  rw [List.range_eq_range', show l.length = l.length - 0 from rfl, pc_outside l.length ((Sh57.gaps most l).filter fun g => decide (least ≤ g.2)) 0 ((gaps_sep most l).filter _) (Nat.zero_le _) _ (fun i _ => rfl)]
  exact bands_is l.length _ 0
end Pg
namespace Pg
/-! ### smoothed rows, hills, margins -/
/-- the sum of the first so many -/
def pre (l : List Nat) (i : Nat) : Nat := (l.take i).sum
theorem pre_succ {l : List Nat} {i : Nat} (h : i < l.length) : pre l (i + 1) = pre l i + l.getD i 0 := by
  unfold pre
  rw [take_snoc (List.getElem?_eq_getElem h), List.sum_append]
  simp [h]
theorem pre_over {l : List Nat} {i : Nat} (h : l.length ≤ i) : pre l i = pre l l.length := by
  unfold pre
  rw [List.take_of_length_le h, List.take_length]
theorem pre_min (l : List Nat) (i : Nat) : pre l i = pre l (min l.length i) := by
  rcases Nat.le_total l.length i with h | h
  · rw [pre_over h, Nat.min_eq_left h]
  · rw [Nat.min_eq_right h]
theorem pre_mid (l : List Nat) {a m : Nat} (h : a ≤ m) : ((l.take m).drop a).sum + pre l a = pre l m := by
  unfold pre
  have e := congrArg List.sum (List.take_append_drop a (l.take m))
  rw [List.sum_append, List.take_take, Nat.min_eq_left h] at e
  omega
theorem pre_mono (l : List Nat) {a m : Nat} (h : a ≤ m) : pre l a ≤ pre l m := by
  have := pre_mid l h
  omega
/-- one smoothed number -/
def smo (d : Nat) (l : List Nat) (i : Nat) : Nat := (pre l (min l.length (i + d + 1)) - pre l (i - d)) / (min l.length (i + d + 1) - (i - d))
theorem smoothed_is (d : Nat) (l : List Nat) : Sh57.smoothed d l = (List.range l.length).map (smo d l) := by
  unfold Sh57.smoothed
  refine List.map_congr_left fun i hi => ?_
  have hi : i < l.length := List.mem_range.mp hi
  show ((l.take (i + d + 1)).drop (i - d)).sum / ((l.take (i + d + 1)).drop (i - d)).length = _
  unfold smo
  have e := pre_mid l (a := i - d) (m := i + d + 1) (by omega)
  rw [← pre_min l (i + d + 1), List.length_drop, List.length_take, Nat.min_comm]
  congr 1
  omega
theorem smo_int (d : Nat) (l : List Nat) {i : Nat} (_hi : i < l.length) : ((smo d l i : Nat) : Int) = ((pre l (min l.length (i + d + 1)) : Int) - (pre l (i - d) : Int)) / (((min l.length (i + d + 1) : Nat) : Int) - ((i - d : Nat) : Int)) := by
  unfold smo
  rw [Int.natCast_ediv, Int.natCast_sub (pre_mono l (by omega)), Int.natCast_sub (by omega)]

def hillAt (l : List Nat) (i : Nat) : Bool := decide ((if i = 0 then 0 else l.getD (i - 1) 0) < l.getD i 0) && decide (l.getD (i + 1) 0 ≤ l.getD i 0)
theorem hills_is (l : List Nat) : Sh57.hills l = (List.range l.length).filter (hillAt l) := rfl
theorem filter_range_succ (p : Nat → Bool) (i : Nat) : (List.range (i + 1)).filter p = (List.range i).filter p ++ if p i = true then [i] else [] := by
  rw [List.range_succ, List.filter_append]
  by_cases h : p i = true
  · rw [if_pos h, List.filter_cons, if_pos h]
    rfl
  · rw [if_neg h, List.filter_cons, if_neg h]
    rfl

theorem margin_drop {most : Nat} {l : List Nat} {i : Nat} (h : i < l.length) : Sh57.margin most (l.drop i) = if l.getD i 0 ≤ most then Sh57.margin most (l.drop (i + 1)) + 1 else 0 := by
  have e : l.getD i 0 = l[i] := by simp [h]
  rw [List.drop_eq_getElem_cons h, e]
  unfold Sh57.margin
  rw [List.takeWhile_cons]
  by_cases hx : l[i] ≤ most <;> simp [hx]
theorem margin_nil (most : Nat) (l : List Nat) : Sh57.margin most (l.drop l.length) = 0 := by
  rw [List.drop_length]
  rfl
end Pg
namespace Pg
/-! ### what is due, call by call: rows of numbers -/
theorem nats_cast (ns : List Nat) : Sh57Neutral.nats (ns.map fun n => ((n : Nat) : Int)) = ns := by
  unfold Sh57Neutral.nats
  rw [List.map_map]
  conv => rhs; rw [← List.map_id ns]
  exact List.map_congr_left fun n _ => Int.toNat_natCast n
theorem few_iff {n : Nat} : Sh57.few n = true ↔ n ≤ 4096 := by
  unfold Sh57.few
  exact decide_eq_true_iff
theorem told_bad : Sh57Neutral.told (Sh57.answer .bad) = [-2] := rfl
theorem told_pieces (l : List (Nat × Nat)) : Sh57Neutral.told (Sh57.told l) = (l.length : Int) :: ((l.length : Int) :: l.map fun p => ((p.1 : Nat) : Int)) ++ ((l.length : Int) :: l.map fun p => ((p.2 : Nat) : Int)) := by
  show (l.length : Int) :: (((l.map fun p => p.1).length : Int) :: (l.map fun p => p.1).map (fun (x : Nat) => (x : Int)) ++ (((l.map fun p => p.2).length : Int) :: (l.map fun p => p.2).map (fun (x : Nat) => (x : Int)) ++ [])) = _
  rw [List.length_map, List.length_map, List.map_map, List.map_map, List.append_nil]
  rfl
theorem st_sharp_is (ns : List Nat) : PySh57.st_sharp (ns.map fun n => ((n : Nat) : Int)) = if ns.length ≤ 4096 then [0, ((Sh57.sharp ns : Nat) : Int)] else [-2] := by
  show Sh57Neutral.told (Sh57.answer (if Sh57.few (Sh57Neutral.nats _).length = true then _ else _)) = _
  rw [nats_cast]
  by_cases h : ns.length ≤ 4096
  · rw [if_pos (few_iff.mpr h), if_pos h]
    rfl
  · rw [if_neg fun z => h (few_iff.mp z), if_neg h]
    rfl
theorem st_gaps_is (most : Nat) (ns : List Nat) : PySh57.st_gaps (most : Int) (ns.map fun n => ((n : Nat) : Int)) = if ns.length ≤ 4096 then Sh57Neutral.told (Sh57.told (Sh57.gaps most ns)) else [-2] := by
  show Sh57Neutral.told (Sh57.answer (if Sh57.few (Sh57Neutral.nats _).length = true then _ else _)) = _
  rw [nats_cast]
  by_cases h : ns.length ≤ 4096
  · rw [if_pos (few_iff.mpr h), if_pos h]
    rfl
  · rw [if_neg fun z => h (few_iff.mp z), if_neg h]
    rfl
theorem st_bands_is (most least : Nat) (ns : List Nat) : PySh57.st_bands (most : Int) (least : Int) (ns.map fun n => ((n : Nat) : Int)) = if ns.length ≤ 4096 then Sh57Neutral.told (Sh57.told (Sh57.bands most least ns)) else [-2] := by
  show Sh57Neutral.told (Sh57.answer (if Sh57.few (Sh57Neutral.nats _).length = true then _ else _)) = _
  rw [nats_cast]
  by_cases h : ns.length ≤ 4096
  · rw [if_pos (few_iff.mpr h), if_pos h]
    rfl
  · rw [if_neg fun z => h (few_iff.mp z), if_neg h]
    rfl
theorem st_smooth_is (d : Nat) (ns : List Nat) : PySh57.st_smooth (d : Int) (ns.map fun n => ((n : Nat) : Int)) = if d ≤ 4096 ∧ ns.length ≤ 4096 then 0 :: (Sh57.smoothed d ns).map (fun n => ((n : Nat) : Int)) else [-2] := by
  show Sh57Neutral.told (Sh57.answer (if (Sh57.few (Sh57Neutral.nats _).length && decide (((d : Nat) : Int).toNat ≤ 4096)) = true then _ else _)) = _
  rw [nats_cast, Int.toNat_natCast]
  by_cases h : d ≤ 4096 ∧ ns.length ≤ 4096
  · rw [if_pos (by rw [few_iff.mpr h.2, decide_eq_true h.1]; rfl), if_pos h]
    rfl
  · rw [if_neg (fun z => h ?_), if_neg h]
    · rfl
    · rw [Bool.and_eq_true] at z
      exact ⟨of_decide_eq_true z.2, few_iff.mp z.1⟩
theorem st_hills_is (ns : List Nat) : PySh57.st_hills (ns.map fun n => ((n : Nat) : Int)) = if ns.length ≤ 4096 then ((Sh57.hills ns).length : Int) :: (Sh57.hills ns).map (fun n => ((n : Nat) : Int)) else [-2] := by
  show Sh57Neutral.told (Sh57.answer (if Sh57.few (Sh57Neutral.nats _).length = true then _ else _)) = _
  rw [nats_cast]
  by_cases h : ns.length ≤ 4096
  · rw [if_pos (few_iff.mpr h), if_pos h]
    rfl
  · rw [if_neg fun z => h (few_iff.mp z), if_neg h]
    rfl
end Pg
namespace Pg
open PySem PySem.Spec PyProof.Rows L2
/-! ### what the walks share -/
/-- a def that the text's globals name x: it keeps its promise and takes its arguments in order -/
def Has (P : Program) (w : World) (K : PySem.W.Frag) (mg : Str → Option Value) (base : Heap) (x : Str) (k : Nat) (ps : List Str) (sp : Sp) : Prop :=
  ∃ (f : Addr) (fd : FuncData), FnOk P w K mg base CX0 k f fd ps sp ∧ mg x = some (.ref f) ∧ PySem.W.keepIn K (.ref f) = true ∧ Binds K fd ps []
theorem pe_has {X : Cx} {x : Str} {k : Nat} {ps : List Str} {sp : Sp} {p pos : Pos} {e : Expr} {es : List Expr} {t : TA} (G : Has X.prog X.w X.K X.mg X.base x k ps sp) (hr : Room k X.A) (ha : PA X (e :: es) t) (hg : Gl X x := by rfl)
    (hdb : (x == ("__debug__" : Str)) = false := by decide) (he : starEach (e :: es) X.env = (false, eval e X.env) :: starEach es X.env := by rfl) (hpl : (backTo pos (starEach es X.env)).any (·.1) = false := by rfl) :
    PE X (.Call (.Name x p) (e :: es) [] pos) (tCall sp [] E0 t) := by
  obtain ⟨f, fd, F, hm, hk, hb⟩ := G
  exact pe_call F hr hg hm hk hb .nil pass0 ha hdb he hpl
/-- a whole number of the module, by its name -/
theorem pe_gi {X : Cx} {x : Str} {i : Int} {t : Tok} {pos : Pos} (hm : X.mg x = some (.int i t)) (hg : Gl X x := by rfl) (hd : (x == ("__debug__" : Str)) = false := by decide) : PE X (.Name x pos) (tC (.int i)) :=
  pe_glob (v := .int i) hg hm ⟨t, rfl⟩ hd
/-! rules whose reading names K alone: a comprehension's own context has the same -/
theorem ixK {X : Cx} {K : PySem.W.Frag} (h : X.K = K := by rfl) : IxR X (rIxL K) := h ▸ ix_list
theorem slK {X : Cx} {K : PySem.W.Frag} (h : X.K = K := by rfl) : SlR X (rSlL K) := h ▸ sl_list
theorem lenK {X : Cx} {K : PySem.W.Frag} (h : X.K = K := by rfl) : CallR X (.builtin "len") (fun xs H Q => ∃ p ys, xs = [.ref p] ∧ (SqL K H p ys ∨ SqT K H p ys) ∧ Q (.int ys.length) H) := h ▸ call_len_seq
theorem sumK {X : Cx} {K : PySem.W.Frag} (hc : X.calm = true) (h : X.K = K := by rfl) : CallR X (.builtin "sum") (rSum K) := h ▸ cr_sum hc
theorem pi_listK {X : Cx} {tg l : Expr} {tl : TE} {K : PySem.W.Frag} (hl : PE X l tl) (h : X.K = K := by rfl) : PI X tg l (iList K tl) := h ▸ pi_list hl
theorem same_upd {H : Hp} {p : Addr} {o : HO} (h : H p = none) : Same H (upd H p o) := fun b x e => by
  rw [upd_ne (ne_of_none e h)]
  exact e
/-- an object of ours, new since H, is written: what H tracked stays -/
theorem same_write {H H' : Hp} {p : Addr} {o : HO} (s : Same H H') (h : H p = none) : Same H (upd H' p o) := fun b x e => by
  rw [upd_ne (ne_of_none e h)]
  exact s b x e
theorem line_of {n : Nat} (h : n ≤ 1000000) : n < sizeLine := Nat.lt_of_le_of_lt h (by decide)
theorem line_le {n : Nat} (h : n ≤ 1000000) : n ≤ sizeLine := Nat.le_of_lt (line_of h)
theorem ix_ints {ns : List Int} {j : Nat} {z : Int} (h : ns[j]? = some z) : atI (ns.map V.int) (j : Int) = some (V.int z) := atI_nat (by rw [List.getElem?_map, h]; rfl)
/-- whole numbers from 0 on, as a list of values -/
def vN (l : List Nat) : List V := l.map fun (n : Nat) => V.int (n : Int)
theorem vN_len (l : List Nat) : (vN l).length = l.length := by simp [vN]
theorem vN_at {l : List Nat} {j : Nat} (h : j < l.length) : atI (vN l) (j : Int) = some (V.int ((l.getD j 0 : Nat) : Int)) := atI_nat (by simp [vN, h])
theorem vN_snoc (l : List Nat) (n : Nat) : vN (l ++ [n]) = vN l ++ [V.int (n : Int)] := by
  unfold vN
  rw [List.map_append]
  rfl
theorem vN_ints (l : List Nat) : vN l = (l.map fun n => ((n : Nat) : Int)).map V.int := by simp [vN]
end Pg
namespace Pg
open PySem PySem.Spec PyProof.Rows L2
open PySem.W (Codec WData)
/-! ### the arguments as they come, the answer as it goes -/
theorem nat_of {z hi : Int} (h : Codec.inInt 0 hi z = true) : ∃ n : Nat, z = (n : Int) ∧ (n : Int) ≤ hi := by
  obtain ⟨h0, h1⟩ := Codec.inInt_iff.mp h
  obtain ⟨n, rfl⟩ := Int.eq_ofNat_of_zero_le h0
  exact ⟨n, rfl, h1⟩
theorem nats_of {hi : Int} : ∀ {l : List Int}, l.all (Codec.inInt 0 hi) = true → ∃ ns : List Nat, l = ns.map (fun n => ((n : Nat) : Int)) ∧ ∀ n ∈ ns, (n : Int) ≤ hi
  | [], _ => ⟨[], rfl, fun _ h => nomatch h⟩
  | z :: r, h => by
    rw [List.all_cons, Bool.and_eq_true] at h
    obtain ⟨n, rfl, hn⟩ := nat_of h.1
    obtain ⟨ns, rfl, hs⟩ := nats_of h.2
    exact ⟨n :: ns, rfl, fun m hm => (List.mem_cons.mp hm).elim (fun e => e ▸ hn) (hs m)⟩
theorem list_of {hi : Int} {most : Nat} {l : List Int} (h : (Codec.inLen 0 most l && l.all (Codec.inInt 0 hi)) = true) : ∃ ns : List Nat, l = ns.map (fun n => ((n : Nat) : Int)) ∧ ns.length ≤ most ∧ ∀ n ∈ ns, (n : Int) ≤ hi := by
  rw [Bool.and_eq_true] at h
  obtain ⟨ns, rfl, hs⟩ := nats_of h.2
  refine ⟨ns, rfl, ?_, hs⟩
  have z := (Codec.inNat_iff.mp h.1).2
  rw [List.length_map] at z
  exact z
theorem int_dw {K : PySem.W.Frag} {H : Hp} {v : V} {z : Int} (h : Dw K H v (.int z)) : v = .int z := by
  cases h
  rfl
theorem list_dw {K : PySem.W.Frag} {H : Hp} {v : V} {l : List Int} (h : Dw K H v (.list (l.map WData.int))) : ∃ a, v = .ref a ∧ SqL K H a (l.map V.int) := by
  cases h with
  | lst hs ha =>
    have e := L2.ints_dw l _ ha
    subst e
    exact ⟨_, rfl, hs⟩
theorem dw_one_of {K : PySem.W.Frag} {H : Hp} {xs : List V} {d : WData} {ds : List WData} (h : DwAll K H xs (d :: ds)) : ∃ v vs, xs = v :: vs ∧ Dw K H v d ∧ DwAll K H vs ds := by
  cases h with
  | cons h1 h2 => exact ⟨_, _, rfl, h1, h2⟩
theorem dw_nil_of {K : PySem.W.Frag} {H : Hp} {xs : List V} (h : DwAll K H xs []) : xs = [] := by
  cases h
  rfl
/-- the answer: a list of ints stands at p -/
theorem ans_dw {K : PySem.W.Frag} {H : Hp} {p : Addr} {l : List Int} (h : H p = some (.lst (l.map V.int))) : Dw K H (.ref p) (.list (l.map WData.int)) := .lst (SqL.of h) (dw_ints _)
end Pg
namespace Pg
open PySem PySem.Spec PyProof.Rows L2
/-! ### lists in step -/
theorem at_nat {l : List Nat} {j : Nat} {z : Int} (e : z = (j : Int)) (h : j < l.length) : atI (vN l) z = some (V.int ((l.getD j 0 : Nat) : Int)) := by
  rw [e]
  exact vN_at h
theorem at_ints {l : List Int} {j : Nat} {z x : Int} (e : z = (j : Int)) (h : l[j]? = some x) : atI (l.map V.int) z = some (V.int x) := by
  rw [e]
  exact ix_ints h
theorem ixN_of {n j : Nat} {z : Int} (e : z = (j : Int)) (h : j < n) : ixN n z = some j := by
  subst e
  unfold ixN
  rw [if_pos (by omega), if_pos (by omega)]
  rfl
/-- two lists of one length, place by place -/
structure Reps {α β : Type} (R : α → β → Prop) (xs : List α) (ys : List β) : Prop where
  len : xs.length = ys.length
  get : ∀ (i : Nat) x y, xs[i]? = some x → ys[i]? = some y → R x y
section
variable {α β : Type} {R R' : α → β → Prop} {xs : List α} {ys : List β}
theorem Reps.nil : Reps R [] [] := ⟨rfl, fun i x y h => by simp at h⟩
theorem Reps.mono (r : Reps R xs ys) (h : ∀ x y, R x y → R' x y) : Reps R' xs ys := ⟨r.len, fun i x y a b => h _ _ (r.get i x y a b)⟩
theorem Reps.snoc {x : α} {y : β} (r : Reps R xs ys) (h : R x y) : Reps R (xs ++ [x]) (ys ++ [y]) := by
  refine ⟨by rw [List.length_append, List.length_append, r.len]; rfl, fun i a b ha hb => ?_⟩
  by_cases hi : i < xs.length
  · rw [List.getElem?_append_left hi] at ha
    rw [List.getElem?_append_left (by rw [← r.len]; exact hi)] at hb
    exact r.get i a b ha hb
  · have hi : xs.length ≤ i := Nat.le_of_not_lt hi
    rw [List.getElem?_append_right hi] at ha
    rw [List.getElem?_append_right (by rw [← r.len]; exact hi), ← r.len] at hb
    cases e : i - xs.length with
    | zero =>
      rw [e] at ha hb
      cases Option.some.inj ha
      cases Option.some.inj hb
      exact h
    | succ n =>
      rw [e] at ha
      simp at ha
theorem Reps.here {i : Nat} {y : β} (r : Reps R xs ys) (h : ys[i]? = some y) : ∃ x, xs[i]? = some x ∧ R x y := by
  have hi : i < ys.length := (List.getElem?_eq_some_iff.mp h).1
  have hi' : i < xs.length := by rw [r.len]; exact hi
  exact ⟨xs[i], List.getElem?_eq_getElem hi', r.get i _ _ (List.getElem?_eq_getElem hi') h⟩
end
theorem map_ref {as : List Addr} {i : Nat} {b : Addr} (h : as[i]? = some b) : (as.map V.ref)[i]? = some (V.ref b) := by rw [List.getElem?_map, h]; rfl
/-- a list of tuples of two numbers stands at o -/
structure PairsAt (H : Hp) (o : Addr) (as : List Addr) (ps : List (Nat × Nat)) : Prop where
  lst : H o = some (.lst (as.map V.ref))
  reps : Reps (fun b p => H b = some (.tup [.int ((p.1 : Nat) : Int), .int ((p.2 : Nat) : Int)])) as ps
theorem PairsAt.same {H H' : Hp} {o : Addr} {as : List Addr} {ps : List (Nat × Nat)} (h : PairsAt H o as ps) (s : Same H H') : PairsAt H' o as ps := ⟨s _ _ h.lst, h.reps.mono fun _ _ q => s _ _ q⟩
theorem PairsAt.push {H : Hp} {o b : Addr} {as : List Addr} {ps : List (Nat × Nat)} {p : Nat × Nat} (h : PairsAt H o as ps) (hb : H b = some (.tup [.int ((p.1 : Nat) : Int), .int ((p.2 : Nat) : Int)])) :
    PairsAt (upd H o (.lst (as.map V.ref ++ [V.ref b]))) o (as ++ [b]) (ps ++ [p]) := by
  have ne : ∀ {c : Addr} {l : List V}, H c = some (.tup l) → c ≠ o := fun hc => ne_of hc h.lst (by intro z; cases z)
  refine ⟨by rw [upd_same, List.map_append]; rfl, (h.reps.mono fun c q hc => ?_).snoc ?_⟩
  · rw [upd_ne (ne hc)]
    exact hc
  · rw [upd_ne (ne hb)]
    exact hb
theorem tYes_of {σ : L2.St} {H : Hp} {Q : Bool → Hp → Prop} (h : Q true H) : tYes σ H Q := h
/-- a list that a comprehension makes -/
theorem lc_push {H1 : Hp} {D : Addr} {F : Nat → V} {i : Nat} {y : V} (hy : y = F i) (hi : i ≤ 1000000) : ∃ acc, (upd H1 D (.lst ((List.range i).map F))) D = some (.lst acc) ∧ acc.length < sizeLine ∧
    upd (upd H1 D (.lst ((List.range i).map F))) D (.lst (acc ++ [y])) = upd H1 D (.lst ((List.range (i + 1)).map F)) := by
  refine ⟨_, upd_same, line_of (by simpa using hi), ?_⟩
  rw [upd_upd, List.range_succ, List.map_append, hy]
  rfl
/-- truths, place by place -/
def marksV (n : Nat) (f : Nat → Bool) : List V := (List.range n).map fun t => V.bl (f t)
theorem marksV_len (n : Nat) (f : Nat → Bool) : (marksV n f).length = n := by simp [marksV]
theorem marksV_set (n : Nat) (f : Nat → Bool) (j : Nat) : (marksV n f).set j (V.bl false) = marksV n (fun t => f t && !decide (t = j)) := by
  unfold marksV
  refine List.ext_getElem? fun i => ?_
  by_cases hi : i < n
  · by_cases e : j = i
    · subst e
      rw [List.getElem?_set_self (by simpa using hi)]
      simp [hi]
    · rw [List.getElem?_set_ne e]
      simp [hi, Ne.symm e]
  · rw [List.getElem?_eq_none (by simpa using hi), List.getElem?_eq_none (by simpa using hi)]
theorem vN_get {ns : List Nat} {i : Nat} {x : V} (h : (vN ns)[i]? = some x) : ∃ n : Nat, ns[i]? = some n ∧ x = .int (n : Int) := by
  unfold vN at h
  rw [List.getElem?_map] at h
  cases e : ns[i]? with
  | none =>
    rw [e] at h
    cases h
  | some n =>
    rw [e] at h
    exact ⟨n, rfl, (Option.some.inj h).symm⟩
end Pg
namespace Pg
open PySem PySem.Spec PyProof.Rows L2
/-! ### the text by places -/
def topS (i : Nat) : Stmt := PySem.Challenge.pw_pagestraight_s08_st_bands.main.body.getD i (.Pass ⟨0, 0, 0, 0⟩)
abbrev sPieces : Stmt := topS 1
abbrev sGaps : Stmt := topS 2
abbrev sBands : Stmt := topS 3
abbrev sPiecesTold : Stmt := topS 7
abbrev sStBands : Stmt := topS 8
end Pg
namespace Pg
open PySem PySem.Spec PyProof.Rows L2
section
variable {P : Program} {w : World} {K : PySem.W.Frag} {mg : Str → Option Value} {base : Heap}
/-! ### pieces -/
def optV : Option Nat → V
  | none => .non
  | some s => .int (s : Int)
def spPieces (K : PySem.W.Frag) : Sp := fun vs H Q _ => ∃ (a : Addr) (ms : List Bool), vs = [.ref a] ∧ SqL K H a (ms.map V.bl) ∧ ms.length ≤ 100000 ∧ ∀ H' o as, Same H H' → H o = none → PairsAt H' o as (pc ms 0 none) → Q (.ref o) H'
theorem scPieces : FnScope ["marks", "found", "start", "at"] ["marks"] (defScope sPieces) := ⟨rfl, rfl, rfl, by decide +kernel, rfl, by decide +kernel, by decide +kernel⟩
theorem pc_step_t {ms : List Bool} {i : Nat} (h : ms[i]? = some true) (s : Option Nat) : pc (ms.drop i) i s = pc (ms.drop (i + 1)) (i + 1) (some (s.getD i)) := by
  obtain ⟨hi, e⟩ := List.getElem?_eq_some_iff.mp h
  rw [List.drop_eq_getElem_cons hi, e]
  cases s <;> rfl
theorem pc_step_f {ms : List Bool} {i : Nat} (h : ms[i]? = some false) (s : Option Nat) : pc (ms.drop i) i s = (match s with | none => [] | some s => [(s, i - s)]) ++ pc (ms.drop (i + 1)) (i + 1) none := by
  obtain ⟨hi, e⟩ := List.getElem?_eq_some_iff.mp h
  rw [List.drop_eq_getElem_cons hi, e]
  cases s <;> rfl
/-- what holds ahead of place i -/
structure PcAt (H : Hp) (ms : List Bool) (o : Addr) (i : Nat) (st : Option Nat) (H' : Hp) (as : List Addr) (ps : List (Nat × Nat)) : Prop where
  same : Same H H'
  pairs : PairsAt H' o as ps
  eq : ps ++ pc (ms.drop i) i st = pc ms 0 none
  few : ps.length ≤ i
  st : ∀ s, st = some s → s < i
theorem ok_pieces {f : Addr} {fd : FuncData} (F : Fun K "pieces" "pieces" sPieces f fd) (mr : mg "range" = none) (ml : mg "len" = none) : FnOk P w K mg base CX0 1 f fd ["marks"] (spPieces K) := by
  refine F.ok scPieces (fun vs H Q E h => ?_) (fun cdv A outer s H vs Q E hr h => ?_)
  · obtain ⟨a, ms, rfl, _⟩ := h
    rfl
  · obtain ⟨a, ms, rfl, hS, hl, q⟩ := h
    have nd := scPieces.nd
    refine ⟨_, pss_cons (ps_set (i := 1) nd rfl (.inl rfl) (pe_lst pa_nil))
      (pss_cons (ps_set (i := 2) nd rfl (.inl rfl) pe_non)
      (pss_cons (ps_for PassesOwn.never rfl (pi_range1 (by rfl) mr (pa_cons (pe_callB call_len_seq (by rfl) ml PySem.boot_len (pa_cons (pv 0) pa_nil)) pa_nil)) (pg_name (i := 3) nd rfl (.inl rfl))
        (pss_cons (ps_if (pw_and (pt_val (pe_ix ix_list (pv 0) (pv 3) (fun _ _ => rfl))) (pw_and1 (pt_cmp (pc_isN (pv 2))))).pt (pss_one (ps_set (i := 2) nd rfl (.inl rfl) (pv 3))) pss_nil)
        (pss_one (ps_if (pw_and (pt_not (pt_val (pe_ix ix_list (pv 0) (pv 3) (fun _ _ => rfl)))) (pw_and1 (pt_cmp (pc_notN (pv 2))))).pt
          (pss_cons (ps_expr (pe_bm PySem.F.plainAttrs_list PySem.F.slot_list_append PySem.F.type_list_append mt_append (pv 1) (pa_cons (pe_tup (pa_cons (pv 2) (pa_cons (pe_op op_sub (pv 3) (pv 2)) pa_nil))) pa_nil)))
          (pss_one (ps_set (i := 2) nd rfl (.inl rfl) pe_non))) pss_nil))))
      (pss_cons (ps_if (pt_cmp (pc_notN (pv 2))) (pss_one (ps_expr (pe_bm PySem.F.plainAttrs_list PySem.F.slot_list_append PySem.F.type_list_append mt_append (pv 1)
          (pa_cons (pe_tup (pa_cons (pv 2) (pa_cons (pe_op op_sub (pe_callB call_len_seq (by rfl) ml PySem.boot_len (pa_cons (pv 0) pa_nil)) (pv 2)) pa_nil))) pa_nil)))) pss_nil)
      (pss_one (ps_ret (pv 1)))))), ?_⟩
    refine ⟨Nat.zero_le _, fun o no => ?_⟩
    have s0 : Same H (upd H o (.lst [])) := same_upd no
    refine ⟨_, rfl, a, _, rfl, .inl (s0.seq hS), _, rfl, by omega, by rw [List.length_map]; omega, ?_⟩
    refine for_range (fun i σ H' => ∃ st v3 as ps, σ = [some (.ref a), some (.ref o), some (optV st), v3] ∧ PcAt H ms o i st H' as ps)
      ⟨none, none, [], [], rfl, s0, ⟨upd_same, .nil⟩, rfl, Nat.le_refl _, fun s e => nomatch e⟩ ?_ ?_
    · rintro i σ H' hi ⟨st, v3, as, ps, rfl, A⟩
      have hi2 : i < ms.length := by
        have z : ((ms.map V.bl).length : Int).toNat = ms.length := by rw [List.length_map]; rfl
        omega
      have hA := A.same.seq hS
      have gi : ∀ {b : Bool}, ms[i]? = some b → atI (ms.map V.bl) (0 + (i : Int)) = some (V.bl b) := fun {b} e => at_of (j := i) (by omega) (by rw [List.getElem?_map, e]; rfl)
      cases e : ms[i]? with
      | none => exact absurd (List.getElem?_eq_none_iff.mp e) (by omega)
      | some b =>
        refine ⟨_, rfl, _, rfl, a, _, _, _, rfl, rfl, hA, gi e, _, rfl, ?_⟩
        cases b with
        | true =>
          refine iteT ⟨_, rfl, _, rfl, ?_⟩
          have z := pc_step_t e st
          cases st with
          | none =>
            refine iteT ⟨_, rfl, ?_⟩
            refine ⟨_, rfl, _, rfl, a, _, _, _, rfl, rfl, hA, gi e, _, rfl, iteF (iteF ?_)⟩
            exact ⟨some i, _, as, ps, by rw [Int.zero_add]; rfl, A.same, A.pairs, z ▸ A.eq, Nat.le_succ_of_le A.few, fun s e => by cases e; exact Nat.lt_succ_self _⟩
          | some s =>
            refine iteF ?_
            refine ⟨_, rfl, _, rfl, a, _, _, _, rfl, rfl, hA, gi e, _, rfl, iteF (iteF ?_)⟩
            exact ⟨some s, _, as, ps, rfl, A.same, A.pairs, z ▸ A.eq, Nat.le_succ_of_le A.few, fun s e => Nat.lt_succ_of_lt (A.st s e)⟩
        | false =>
          refine iteF (iteF ?_)
          have z := pc_step_f e st
          refine ⟨_, rfl, _, rfl, a, _, _, _, rfl, rfl, hA, gi e, _, rfl, iteT ⟨_, rfl, _, rfl, ?_⟩⟩
          cases st with
          | none =>
            have z : pc (ms.drop i) i none = pc (ms.drop (i + 1)) (i + 1) none := z
            refine iteF ?_
            exact ⟨none, _, as, ps, rfl, A.same, A.pairs, z ▸ A.eq, Nat.le_succ_of_le A.few, fun s e => nomatch e⟩
          | some s =>
            have hs := A.st s rfl
            refine iteT ⟨_, rfl, .inl ⟨rfl, _, SqL.of A.pairs.lst⟩, _, rfl, _, rfl, _, rfl, _, _, rfl, rfl, (by show 2 ≤ sizeLine; decide), fun t ht => ?_⟩
            have s2 : Same H' (upd H' t (.tup [.int (s : Int), .int ((0 + (i : Int)) - (s : Int))])) := same_upd ht
            have P2 := A.pairs.same s2
            have P3 := P2.push (b := t) (p := (s, i - s)) (by
              rw [upd_same]
              show _ = some (HO.tup [.int (s : Int), .int (((i - s : Nat) : Nat) : Int)])
              rw [Int.natCast_sub (by omega), Int.zero_add])
            refine ⟨o, _, _, rfl, rfl, P2.lst, line_of (by rw [List.length_map, A.pairs.reps.len]; have := A.few; omega), ?_⟩
            refine ⟨none, _, as ++ [t], ps ++ [(s, i - s)], rfl, same_write (A.same.trans s2) no, P3, ?_, ?_, fun s e => nomatch e⟩
            · rw [List.append_assoc]
              exact z ▸ A.eq
            · rw [List.length_append]
              exact Nat.succ_le_succ A.few
    · rintro σ H' ⟨st, v3, as, ps, rfl, A⟩
      have en : ((ms.map V.bl).length : Int).toNat = ms.length := by rw [List.length_map]; rfl
      rw [en] at A
      have z := A.eq
      rw [List.drop_length] at z
      refine ⟨_, rfl, _, rfl, ?_⟩
      cases st with
      | none =>
        refine iteF ⟨_, rfl, ?_⟩
        have z : ps ++ [] = pc ms 0 none := z
        rw [List.append_nil] at z
        exact q H' o as A.same no (z ▸ A.pairs)
      | some s =>
        have hs := A.st s rfl
        refine iteT ⟨_, rfl, .inl ⟨rfl, _, SqL.of A.pairs.lst⟩, _, rfl, _, rfl, a, _, rfl, .inl (A.same.seq hS), _, rfl, _, _, rfl, rfl, (by show 2 ≤ sizeLine; decide), fun t ht => ?_⟩
        have s2 : Same H' (upd H' t (.tup [.int (s : Int), .int (((ms.map V.bl).length : Int) - (s : Int))])) := same_upd ht
        have P2 := A.pairs.same s2
        have P3 := P2.push (b := t) (p := (s, ms.length - s)) (by
          rw [upd_same]
          show _ = some (HO.tup [.int (s : Int), .int (((ms.length - s : Nat) : Nat) : Int)])
          rw [Int.natCast_sub (by omega), List.length_map])
        refine ⟨o, _, _, rfl, rfl, P2.lst, line_of (by rw [List.length_map, A.pairs.reps.len]; have := A.few; omega), ?_⟩
        refine ⟨_, rfl, ?_⟩
        have z : ps ++ [(s, ms.length - s)] = pc ms 0 none := z
        exact q _ o _ (same_write (A.same.trans s2) no) no (z ▸ P3)
end
end Pg
namespace Pg
open PySem PySem.Spec PyProof.Rows L2
section
variable {P : Program} {w : World} {K : PySem.W.Frag} {mg : Str → Option Value} {base : Heap}
/-! ### pieces_told -/
def spPiecesTold (K : PySem.W.Frag) : Sp := fun vs H Q _ => ∃ (a : Addr) (as : List Addr) (ps : List (Nat × Nat)), vs = [.ref a] ∧ PairsAt H a as ps ∧ ps.length ≤ 100000 ∧
  ∀ H' p, H' p = some (.lst ((Sh57Neutral.told (Sh57.told ps)).map V.int)) → Q (.ref p) H'
theorem scPiecesTold : FnScope ["found", "many", "start", "size"] ["found"] (defScope sPiecesTold) := ⟨rfl, rfl, rfl, by decide +kernel, rfl, by decide +kernel, by decide +kernel⟩
/-- a comprehension over the pairs that picks one number of each -/
theorem lc_pairs {H : Hp} {D a : Addr} {as : List Addr} {ps : List (Nat × Nat)} {te : TE} {σ : L2.St} {Qd : Hp → Prop} (pick : Nat × Nat → Nat) (hA : PairsAt H a as ps) (hl : ps.length ≤ 100000) (hD : H D = none)
    (h1 : σ.length = 4)
    (he : ∀ (p : Nat × Nat) σ H (Q : VK), σ[2]? = some (some (.int ((p.1 : Nat) : Int))) → σ[3]? = some (some (.int ((p.2 : Nat) : Int))) → Q (.int ((pick p : Nat) : Int)) H → te σ H Q)
    (q : ∀ H', H' = upd H D (.lst (ps.map fun p => V.int ((pick p : Nat) : Int))) → Qd H') :
    ∃ W : Nat → Nat → Hp → Prop, (∃ m, W 0 m (upd H D (.lst []))) ∧ ∀ i m H, W i m H →
      ((Itl K a).stop i H ∧ Qd H) ∨ ((Itl K a).go i H ∧ ∃ Nx : Hp → Prop, (∀ H', Nx H' → ∃ m', m' < m ∧ W (i + 1) m' H') ∧ ∀ x H', (Itl K a).yld i H x H' → gTup K 2 (gCons (gName 2) (gCons (gName 3) gNil)) x (wipe σ [2, 3]) H' fun σ2 H2 => wipe σ2 [2, 3] = wipe σ [2, 3] ∧ tYes σ2 H2 fun b H3 =>
        if b = true then te σ2 H3 fun y H4 => ∃ acc, H4 D = some (.lst acc) ∧ acc.length < sizeLine ∧ Nx (upd H4 D (.lst (acc ++ [y]))) else Nx H3) := by
  have sD : ∀ l, Same H (upd H D (.lst l)) := fun l => same_upd hD
  refine lc_list (K := K) (a := a) (xs := as.map V.ref) (fun i H' => H' = upd H D (.lst ((ps.take i).map fun p => V.int ((pick p : Nat) : Int)))) rfl (fun i H' _ e => ?_) ?_ ?_
  · rw [e]
    exact SqL.of (sD _ _ _ hA.lst)
  · rintro i x H' hi rfl
    have hi2 : i < as.length := by
      have := (List.getElem?_eq_some_iff.mp hi).1
      rw [List.length_map] at this
      exact this
    have ga : as[i]? = some as[i] := List.getElem?_eq_getElem hi2
    have hi3 : i < ps.length := by rw [← hA.reps.len]; exact hi2
    have gp : ps[i]? = some ps[i] := List.getElem?_eq_getElem hi3
    have ex : x = V.ref as[i] := by
      rw [List.getElem?_map, ga] at hi
      exact (Option.some.inj hi).symm
    subst ex
    have hT := hA.reps.get i _ _ ga gp
    match σ, h1 with
    | [s0, s1, s2, s3], _ =>
      refine ⟨as[i], _, rfl, .inl (.inl (sD _ _ _ hT)), rfl, _, _, rfl, _, _, rfl, rfl, rfl, tYes_of (iteT (he ps[i] _ _ _ rfl rfl ?_))⟩
      refine ⟨_, upd_same, line_of (by rw [List.length_map, List.length_take]; omega), ?_⟩
      rw [upd_upd, take_snoc gp, List.map_append]
      rfl
  · rintro H' rfl
    refine q _ ?_
    rw [List.length_map, hA.reps.len, List.take_length]
theorem ok_pieces_told {f : Addr} {fd : FuncData} (F : Fun K "pieces_told" "pieces_told" sPiecesTold f fd) (ml : mg "len" = none) : FnOk P w K mg base CX0 1 f fd ["found"] (spPiecesTold K) := by
  refine F.ok scPiecesTold (fun vs H Q E h => ?_) (fun cdv A outer s H vs Q E hr h => ?_)
  · obtain ⟨a, as, ps, rfl, _⟩ := h
    rfl
  · obtain ⟨a, as, ps, rfl, hA, hl, q⟩ := h
    have nd := scPiecesTold.nd
    refine ⟨_, pss_cons (ps_set (i := 1) nd rfl (.inl rfl) (pe_lst (pa_cons (pe_callB call_len_seq (by rfl) ml PySem.boot_len (pa_cons (pv 0) pa_nil)) pa_nil)))
      (pss_one (ps_ret (pe_op op_cat (pe_op op_cat (pe_op op_cat (pe_op op_cat (pv 1) (pv 1))
        (pe_lc (own := [("start", 2), ("size", 3)]) (g := gTup K 2 (gCons (gName 2) (gCons (gName 3) gNil))) (tt := tYes) (by rfl) nd (pi_list (pv 0)) (blkOk_by (own := [("start", 2), ("size", 3)]) (N := ["found", "many", "start", "size"]) (sc := defScope sPiecesTold) (by decide +kernel))
          (fun _ _ _ _ _ => pg_tup rfl (pgs_cons (pg_name (i := 2) nd rfl (Or.inl rfl)) (pgs_cons (pg_name (i := 3) nd rfl (Or.inl rfl)) pgs_nil))) (fun _ _ _ _ _ => pts_nil) (fun _ _ _ _ _ => pv 2)))
        (pv 1))
        (pe_lc (own := [("start", 2), ("size", 3)]) (g := gTup K 2 (gCons (gName 2) (gCons (gName 3) gNil))) (tt := tYes) (by rfl) nd (pi_list (pv 0)) (blkOk_by (own := [("start", 2), ("size", 3)]) (N := ["found", "many", "start", "size"]) (sc := defScope sPiecesTold) (by decide +kernel))
          (fun _ _ _ _ _ => pg_tup rfl (pgs_cons (pg_name (i := 2) nd rfl (Or.inl rfl)) (pgs_cons (pg_name (i := 3) nd rfl (Or.inl rfl)) pgs_nil))) (fun _ _ _ _ _ => pts_nil) (fun _ _ _ _ _ => pv 3))))), ?_⟩
    have hal : (as.map V.ref).length = ps.length := by rw [List.length_map, hA.reps.len]
    refine ⟨_, rfl, a, _, rfl, .inl (SqL.of hA.lst), line_le (by show 1 ≤ _; decide), fun m hm => ?_⟩
    have A1 := hA.same (same_upd (o := .lst [.int ((as.map V.ref).length : Int)]) hm)
    have M1 : (upd H m (.lst [.int ((as.map V.ref).length : Int)])) m = some (.lst [.int ((as.map V.ref).length : Int)]) := upd_same
    generalize upd H m (.lst [.int ((as.map V.ref).length : Int)]) = H1 at A1 M1 ⊢
    rw [hal] at M1
    refine ⟨_, rfl, _, rfl, m, m, _, _, rfl, rfl, M1, M1, line_le (by show 2 ≤ _; decide), fun p2 hp2 => ?_⟩
    have A2 := A1.same (same_upd (o := .lst ([.int (ps.length : Int)] ++ [.int (ps.length : Int)])) hp2)
    have M2 := same_upd (o := .lst ([.int (ps.length : Int)] ++ [.int (ps.length : Int)])) hp2 _ _ M1
    have P2 : (upd H1 p2 (.lst ([.int (ps.length : Int)] ++ [.int (ps.length : Int)]))) p2 = some (.lst ([.int (ps.length : Int)] ++ [.int (ps.length : Int)])) := upd_same
    generalize upd H1 p2 (.lst ([.int (ps.length : Int)] ++ [.int (ps.length : Int)])) = H2 at A2 M2 P2 ⊢
    refine ⟨_, rfl, a, rfl, ⟨_, SqL.of A2.lst⟩, fun D hD => lc_pairs (te := tVar 2) (fun p => p.1) A2 hl hD rfl (fun p σ H Q e1 e2 k => ⟨_, e1, k⟩) fun H3 e3 => ?_⟩
    have s3 : Same H2 H3 := by rw [e3]; exact same_upd hD
    have D3 : H3 D = some (.lst (ps.map fun p => V.int ((p.1 : Nat) : Int))) := by rw [e3]; exact upd_same
    have ne1 : D ≠ p2 := fun e => by rw [e, P2] at hD; cases hD
    refine ⟨p2, D, _, _, rfl, rfl, s3 _ _ P2, D3, line_le (by simp; omega), fun p4 hp4 => ?_⟩
    have s4 : Same H2 (upd H3 p4 (.lst ([V.int (ps.length : Int)] ++ [V.int (ps.length : Int)] ++ ps.map fun p => V.int ((p.1 : Nat) : Int)))) := s3.trans (same_upd hp4)
    have P4 : (upd H3 p4 (.lst ([V.int (ps.length : Int)] ++ [V.int (ps.length : Int)] ++ ps.map fun p => V.int ((p.1 : Nat) : Int)))) p4 = some (.lst ([V.int (ps.length : Int)] ++ [V.int (ps.length : Int)] ++ ps.map fun p => V.int ((p.1 : Nat) : Int))) := upd_same
    generalize upd H3 p4 (.lst ([V.int (ps.length : Int)] ++ [V.int (ps.length : Int)] ++ ps.map fun p => V.int ((p.1 : Nat) : Int))) = H4 at s4 P4 ⊢
    refine ⟨_, rfl, p4, m, _, _, rfl, rfl, P4, s4 _ _ M2, line_le (by simp; omega), fun p5 hp5 => ?_⟩
    have s5 := s4.trans (same_upd (o := .lst ([V.int (ps.length : Int)] ++ [V.int (ps.length : Int)] ++ (ps.map fun p => V.int ((p.1 : Nat) : Int)) ++ [V.int (ps.length : Int)])) hp5)
    have P5 : (upd H4 p5 (.lst ([V.int (ps.length : Int)] ++ [V.int (ps.length : Int)] ++ (ps.map fun p => V.int ((p.1 : Nat) : Int)) ++ [V.int (ps.length : Int)]))) p5 = some (.lst ([V.int (ps.length : Int)] ++ [V.int (ps.length : Int)] ++ (ps.map fun p => V.int ((p.1 : Nat) : Int)) ++ [V.int (ps.length : Int)])) := upd_same
    generalize upd H4 p5 (.lst ([V.int (ps.length : Int)] ++ [V.int (ps.length : Int)] ++ (ps.map fun p => V.int ((p.1 : Nat) : Int)) ++ [V.int (ps.length : Int)])) = H5 at s5 P5 ⊢
    have A5 := A2.same s5
    refine ⟨_, rfl, a, rfl, ⟨_, SqL.of A5.lst⟩, fun D2 hD2 => lc_pairs (te := tVar 3) (fun p => p.2) A5 hl hD2 rfl (fun p σ H Q e1 e2 k => ⟨_, e2, k⟩) fun H6 e6 => ?_⟩
    have s6 : Same H5 H6 := by rw [e6]; exact same_upd hD2
    have D6 : H6 D2 = some (.lst (ps.map fun p => V.int ((p.2 : Nat) : Int))) := by rw [e6]; exact upd_same
    refine ⟨p5, D2, _, _, rfl, rfl, s6 _ _ P5, D6, line_le (by simp; omega), fun p7 hp7 => ?_⟩
    refine q _ p7 ?_
    rw [upd_same, told_pieces]
    simp [Function.comp_def]
end
end Pg
namespace Pg
open PySem PySem.Spec PyProof.Rows L2
section
variable {P : Program} {w : World} {K : PySem.W.Frag} {mg : Str → Option Value} {base : Heap}
/-! ### gaps -/
def spGaps (K : PySem.W.Frag) : Sp := fun vs H Q _ => ∃ (a : Addr) (ns : List Nat) (most : Nat), vs = [.ref a, .int (most : Int)] ∧ SqL K H a (vN ns) ∧ ns.length ≤ 100000 ∧ ∀ H' o as, Same H H' → H o = none → PairsAt H' o as (Sh57.gaps most ns) → Q (.ref o) H'
theorem scGaps : FnScope ["numbers", "most", "number"] ["numbers", "most"] (defScope sGaps) := ⟨rfl, rfl, rfl, by decide +kernel, rfl, by decide +kernel, by decide +kernel⟩
theorem sep_few {n : Nat} : ∀ {C : List (Nat × Nat)} {b : Nat}, Sep n b C → b ≤ n → C.length + b ≤ n
  | [], b, _, h => by rw [List.length_nil]; omega
  | c :: r, b, h, _ => by
    obtain ⟨h1, h2, h3, h4⟩ := h
    have ih := sep_few h4 h3
    rw [List.length_cons]
    omega
theorem gaps_few (most : Nat) (l : List Nat) : (Sh57.gaps most l).length ≤ l.length := sep_few (gaps_sep most l) (Nat.zero_le _)
theorem ok_gaps {f : Addr} {fd : FuncData} (F : Fun K "gaps" "gaps" sGaps f fd) (hP : Has P w K mg base "pieces" 1 ["marks"] (spPieces K)) : FnOk P w K mg base CX0 2 f fd ["numbers", "most"] (spGaps K) := by
  refine F.ok scGaps (fun vs H Q E h => ?_) (fun cdv A outer s H vs Q E hr h => ?_)
  · obtain ⟨a, ns, most, rfl, _⟩ := h
    rfl
  · obtain ⟨a, ns, most, rfl, hA, hl, q⟩ := h
    have nd := scGaps.nd
    refine ⟨_, pss_one (ps_ret (pe_has hP hr (pa_cons (pe_lc (own := [("number", 2)]) (g := gName 2) (tt := tYes) (by rfl) nd (pi_list (pv 0)) (blkOk_by (own := [("number", 2)]) (N := ["numbers", "most", "number"]) (sc := defScope sGaps) (by decide +kernel))
      (fun _ _ _ _ _ => pg_name (i := 2) nd rfl (Or.inl rfl)) (fun _ _ _ _ _ => pts_nil) (fun _ _ _ _ _ => pe_cmpR op_le (pv 2) (pv 1) (nomark _))) pa_nil))), ?_⟩
    refine ⟨_, rfl, a, rfl, ⟨_, hA⟩, fun D hD => ?_⟩
    have sD : ∀ l, Same H (upd H D (.lst l)) := fun l => same_upd hD
    refine lc_list (K := K) (a := a) (xs := vN ns) (fun i H' => H' = upd H D (.lst ((ns.take i).map fun n => V.bl (decide (n ≤ most))))) rfl (fun i H' _ e => ?_) ?_ ?_
    · rw [e]
      exact (sD _).seq hA
    · rintro i x H' hi rfl
      obtain ⟨n, hn, rfl⟩ := vN_get hi
      refine ⟨rfl, tYes_of (iteT ⟨_, rfl, _, rfl, _, _, rfl, rfl, ?_⟩)⟩
      have hi2 := (List.getElem?_eq_some_iff.mp hn).1
      refine ⟨_, upd_same, line_of (by rw [List.length_map, List.length_take]; omega), ?_⟩
      have e : decide ((n : Int) ≤ (most : Int)) = decide (n ≤ most) := decide_eq_decide.mpr (by omega)
      rw [upd_upd, take_snoc hn, List.map_append]
      show upd H D (.lst (_ ++ [V.bl (decide ((n : Int) ≤ (most : Int)))])) = _
      rw [e]
      rfl
    · rintro H' rfl
      have el : (ns.take (vN ns).length).map (fun n => V.bl (decide (n ≤ most))) = (ns.map fun n => decide (n ≤ most)).map V.bl := by
        rw [vN_len, List.take_length, List.map_map]
        rfl
      rw [el]
      refine ⟨D, ns.map fun n => decide (n ≤ most), rfl, SqL.of upd_same, by rw [List.length_map]; exact hl, fun H'' o as sm no A => ?_⟩
      rw [← gaps_is] at A
      exact q H'' o as ((sD _).trans sm) ((sD _).free no) A
end
end Pg
namespace Pg
open PySem PySem.Spec PyProof.Rows L2
open PySem.W (Codec WData)
section
variable {P : Program} {w : World} {K : PySem.W.Frag} {mg : Str → Option Value} {base : Heap}
/-! ### bands -/
theorem sep_mem {n : Nat} : ∀ {C : List (Nat × Nat)} {b : Nat}, Sep n b C → ∀ p ∈ C, p.1 + p.2 ≤ n
  | [], _, _, _, h => nomatch h
  | c :: r, b, h, p, hp => by
    rcases List.mem_cons.mp hp with e | e
    · rw [e]
      exact h.2.2.1
    · exact sep_mem h.2.2.2 p e
theorem PairsAt.other {H : Hp} {o M : Addr} {as : List Addr} {ps : List (Nat × Nat)} {l l' : List V} (h : PairsAt H o as ps) (ne : o ≠ M) (hM : H M = some (.lst l)) : PairsAt (upd H M (.lst l')) o as ps :=
  ⟨(upd_ne ne).trans h.lst, h.reps.mono fun b p hb => (upd_ne (ne_of hb hM (by intro z; cases z))).trans hb⟩
theorem outside_snoc (C : List (Nat × Nat)) (c : Nat × Nat) (i : Nat) : outside (C ++ [c]) i = (outside C i && !(decide (c.1 ≤ i) && decide (i < c.1 + c.2))) := by
  unfold outside
  rw [List.any_append, Bool.not_or]
  simp
theorem marksV_congr {n : Nat} {f g : Nat → Bool} (h : ∀ t, f t = g t) : marksV n f = marksV n g := by rw [funext h]
def cutsTo (least : Nat) (gs : List (Nat × Nat)) (j : Nat) : List (Nat × Nat) := (gs.take j).filter fun g => decide (least ≤ g.2)
theorem cutsTo_succ {least : Nat} {gs : List (Nat × Nat)} {j : Nat} {g : Nat × Nat} (h : gs[j]? = some g) : cutsTo least gs (j + 1) = cutsTo least gs j ++ if least ≤ g.2 then [g] else [] := by
  unfold cutsTo
  rw [take_snoc h, List.filter_append]
  by_cases hl : least ≤ g.2 <;> simp [hl]
def spBands (K : PySem.W.Frag) : Sp := fun vs H Q _ => ∃ (a : Addr) (ns : List Nat) (most least : Nat), vs = [.ref a, .int (most : Int), .int (least : Int)] ∧ SqL K H a (vN ns) ∧ ns.length ≤ 100000 ∧ ∀ H' o as, PairsAt H' o as (Sh57.bands most least ns) → Q (.ref o) H'
theorem scBands : FnScope ["numbers", "most", "least", "marks", "start", "many", "at", "number"] ["numbers", "most", "least"] (defScope sBands) := ⟨rfl, rfl, rfl, by decide +kernel, rfl, by decide +kernel, by decide +kernel⟩
theorem ok_bands {f : Addr} {fd : FuncData} (F : Fun K "bands" "bands" sBands f fd) (hG : Has P w K mg base "gaps" 2 ["numbers", "most"] (spGaps K)) (hP : Has P w K mg base "pieces" 1 ["marks"] (spPieces K)) (mr : mg "range" = none) :
    FnOk P w K mg base CX0 3 f fd ["numbers", "most", "least"] (spBands K) := by
  refine F.ok scBands (fun vs H Q E h => ?_) (fun cdv A outer s H vs Q E hr h => ?_)
  · obtain ⟨a, ns, most, least, rfl, _⟩ := h
    rfl
  · obtain ⟨a, ns, most, least, rfl, hA, hl, q⟩ := h
    have nd := scBands.nd
    refine ⟨_, pss_cons (ps_setLc (i := 3) (own := [("number", 7)]) (g := gName 7) (tt := tYes) (by rfl) nd rfl rfl (sw_true rfl rfl rfl (by decide +kernel)) (pi_list (pv 0))
        (blkOk_by (own := [("number", 7)]) (N := ["numbers", "most", "least", "marks", "start", "many", "at", "number"]) (sc := defScope sBands) (by decide +kernel))
        (fun _ _ _ _ _ => pg_name (i := 7) nd rfl (Or.inl rfl)) (fun _ _ _ _ _ => pts_nil) (fun _ _ _ _ _ => pe_bl))
      (pss_cons (ps_for PassesOwn.never rfl (pi_list (pe_has hG hr (pa_cons (pv 0) (pa_cons (pv 1) pa_nil)))) (pg_tup rfl (pgs_cons (pg_name (i := 4) nd rfl (Or.inl rfl)) (pgs_cons (pg_name (i := 5) nd rfl (Or.inl rfl)) pgs_nil)))
        (pss_one (ps_if (pt_cmpR op_ge (pv 5) (pv 2) (nomark _))
          (pss_one (ps_for PassesOwn.never rfl (pi_range2 (by rfl) mr (pa_cons (pv 4) (pa_cons (pe_op op_add (pv 4) (pv 5)) pa_nil))) (pg_name (i := 6) nd rfl (.inl rfl))
            (pss_one (ps_asg pe_bl (pg_sub (pv 3) (pv 6) set_list))))) pss_nil)))
      (pss_one (ps_ret (pe_has hP (hr.mono (by decide)) (pa_cons (pv 3) pa_nil))))), ?_⟩
    have hlen := vN_len ns
    refine ⟨_, rfl, a, rfl, ⟨_, hA⟩, fun M hM => ?_⟩
    have sD : ∀ l, Same H (upd H M (.lst l)) := fun l => same_upd hM
    refine lc_list (K := K) (a := a) (xs := vN ns) (fun i H' => H' = upd H M (.lst ((List.range i).map fun _ => V.bl true))) rfl (fun i H' _ e => ?_) ?_ ?_
    · rw [e]
      exact (sD _).seq hA
    · rintro i x H' hi rfl
      have hi2 := (List.getElem?_eq_some_iff.mp hi).1
      exact ⟨rfl, tYes_of (iteT (lc_push rfl (by omega)))⟩
    · rintro H1 e1
      have e0 : marksV ns.length (outside []) = (List.range (vN ns).length).map fun _ => V.bl true := by rw [hlen]; rfl
      have s1 : Same H H1 := by rw [e1]; exact sD _
      have m1 : H1 M = some (.lst (marksV ns.length (outside []))) := by rw [e0, e1]; exact upd_same
      refine ⟨_, rfl, _, rfl, a, ns, most, rfl, s1.seq hA, hl, fun H2 o as s2 no B => ?_⟩
      have hS := gaps_sep most ns
      generalize hgs : Sh57.gaps most ns = gs at B hS
      have ne : o ≠ M := fun e => by rw [e, m1] at no; cases no
      have hal : as.length = gs.length := B.reps.len
      refine ⟨o, rfl, ⟨_, SqL.of B.lst⟩, ?_⟩
      refine for_list (K := K) (a := o) (xs := as.map V.ref) (fun j σ H' => ∃ v4 v5 v6 v7, σ = [some (.ref a), some (.int (most : Int)), some (.int (least : Int)), some (.ref M), v4, v5, v6, v7] ∧ H' M = some (.lst (marksV ns.length (outside (cutsTo least gs j)))) ∧ PairsAt H' o as gs)
        ⟨none, none, none, none, rfl, s2 _ _ m1, B⟩ (fun j σ H' _ ⟨_, _, _, _, _, _, B'⟩ => SqL.of B'.lst) ?_ ?_
      · rintro j x σ H' hj ⟨v4, v5, v6, v7, rfl, mM, B'⟩
        have hj2 : j < as.length := by
          have := (List.getElem?_eq_some_iff.mp hj).1
          rw [List.length_map] at this
          exact this
        have ga : as[j]? = some as[j] := List.getElem?_eq_getElem hj2
        have gp : gs[j]? = some gs[j] := List.getElem?_eq_getElem (by omega)
        have ex : x = V.ref as[j] := by
          rw [List.getElem?_map, ga] at hj
          exact (Option.some.inj hj).symm
        subst ex
        have hT := B'.reps.get j _ _ ga gp
        have hmem : gs[j] ∈ gs := List.getElem_mem _
        have hle := sep_mem hS _ hmem
        generalize gs[j] = g at gp hT hle hmem
        have hcut := cutsTo_succ (least := least) gp
        refine ⟨as[j], _, rfl, .inl (.inl hT), rfl, _, _, rfl, _, _, rfl, rfl, ?_⟩
        refine ⟨_, rfl, _, rfl, _, _, rfl, rfl, _, rfl, ite2 (fun e => ?_) (fun e => ?_)⟩
        · have e : (least : Int) ≤ (g.2 : Int) := of_decide_eq_true e
          rw [if_pos (by omega)] at hcut
          refine ⟨_, rfl, _, rfl, _, rfl, _, _, rfl, rfl, _, _, rfl, ⟨by omega, by omega, by omega, by omega⟩, ?_⟩
          refine for_range (fun i σ H' => ∃ v6, σ = [some (.ref a), some (.int (most : Int)), some (.int (least : Int)), some (.ref M), some (.int ((g.1 : Nat) : Int)), some (.int ((g.2 : Nat) : Int)), v6, v7] ∧
              H' M = some (.lst (marksV ns.length fun t => outside (cutsTo least gs j) t && !(decide (g.1 ≤ t) && decide (t < g.1 + i)))) ∧ PairsAt H' o as gs)
            ⟨v6, rfl, ?_, B'⟩ ?_ ?_
          · rw [mM]
            congr 2
            refine marksV_congr fun t => ?_
            by_cases h1 : g.1 ≤ t
            · rw [decide_eq_false (by omega : ¬ t < g.1 + 0)]
              simp
            · rw [decide_eq_false h1]
              simp
          · rintro i σ H5 hi ⟨v6, rfl, m5, B5⟩
            refine ⟨_, rfl, _, rfl, M, _, _, g.1 + i, rfl, rfl, m5, ixN_of (by omega) (by rw [marksV_len]; omega), ?_⟩
            refine ⟨_, rfl, ?_, B5.other ne m5⟩
            rw [upd_same, marksV_set]
            congr 2
            refine marksV_congr fun t => ?_
            by_cases h1 : g.1 ≤ t
            · by_cases h2 : t < g.1 + i
              · rw [decide_eq_true h1, decide_eq_true h2, decide_eq_true (by omega : t < g.1 + (i + 1))]
                simp
              · by_cases h3 : t = g.1 + i
                · rw [decide_eq_true h1, decide_eq_false h2, decide_eq_true h3, decide_eq_true (by omega : t < g.1 + (i + 1))]
                  simp
                · rw [decide_eq_true h1, decide_eq_false h2, decide_eq_false h3, decide_eq_false (by omega : ¬ t < g.1 + (i + 1))]
                  simp
            · rw [decide_eq_false h1, decide_eq_false (by omega : ¬ t = g.1 + i)]
              simp
          · rintro σ H5 ⟨v6, rfl, m5, B5⟩
            refine ⟨_, _, _, _, rfl, ?_, B5⟩
            rw [m5, hcut]
            congr 2
            refine marksV_congr fun t => ?_
            rw [outside_snoc, show ((g.1 : Int) + (g.2 : Int) - (g.1 : Int)).toNat = g.2 by omega]
        · have e : ¬ (least : Int) ≤ (g.2 : Int) := fun h => e (decide_eq_true h)
          rw [if_neg (by omega), List.append_nil] at hcut
          exact ⟨_, _, _, _, rfl, by rw [hcut]; exact mM, B'⟩
      · rintro σ H' ⟨v4, v5, v6, v7, rfl, mM, B'⟩
        have ec : cutsTo least gs (as.map V.ref).length = gs.filter fun g => decide (least ≤ g.2) := by
          unfold cutsTo
          rw [List.length_map, hal, List.take_length]
        rw [ec] at mM
        have em : marksV ns.length (outside (gs.filter fun g => decide (least ≤ g.2))) = ((List.range ns.length).map (outside (gs.filter fun g => decide (least ≤ g.2)))).map V.bl := by
          unfold marksV
          rw [List.map_map]
          rfl
        rw [em] at mM
        refine ⟨_, rfl, M, _, rfl, SqL.of mM, by rw [List.length_map, List.length_range]; exact hl, fun H'' o' as' sm no' B'' => ?_⟩
        rw [← hgs, ← bands_pc] at B''
        exact q H'' o' as' B''
/-! ### st_bands -/
def spStBands (K : PySem.W.Frag) : Sp := fun vs H Q _ => ∃ (most least : Nat) (a : Addr) (ns : List Nat), vs = [.int (most : Int), .int (least : Int), .ref a] ∧ SqL K H a (vN ns) ∧ ns.length ≤ 4200 ∧
  ∀ H' p, H' p = some (.lst ((PySh57.st_bands (most : Int) (least : Int) (ns.map fun n => ((n : Nat) : Int))).map V.int)) → Q (.ref p) H'
theorem scStBands : FnScope ["most", "least", "l"] ["most", "least", "l"] (defScope sStBands) := ⟨rfl, rfl, rfl, by decide +kernel, rfl, by decide +kernel, by decide +kernel⟩
theorem bands_few (most least : Nat) (l : List Nat) : (Sh57.bands most least l).length ≤ l.length := by
  rw [bands_pc]
  exact sep_few (pc_sep _ 0 l.length (by simp)).1 (Nat.zero_le _)
theorem ok_st_bands {f : Addr} {fd : FuncData} {t1 t2 : Tok} (F : Fun K "st_bands" "st_bands" sStBands f fd) (hT : Has P w K mg base "pieces_told" 1 ["found"] (spPiecesTold K)) (hG : Has P w K mg base "bands" 3 ["numbers", "most", "least"] (spBands K)) (ml : mg "len" = none)
    (gM : mg "MOST_NUMBERS" = some (.int 4096 t1)) (gB : mg "BAD" = some (.int (-2) t2)) : FnOk P w K mg base CX0 4 f fd ["most", "least", "l"] (spStBands K) := by
  refine F.ok scStBands (fun vs H Q E h => ?_) (fun cdv A outer s H vs Q E hr h => ?_)
  · obtain ⟨most, least, a, ns, rfl, _⟩ := h
    rfl
  · obtain ⟨most, least, a, ns, rfl, hA, hl, q⟩ := h
    refine ⟨_, pss_cons (ps_if (pt_cmpR op_gt (pe_callB call_len_seq (by rfl) ml PySem.boot_len (pa_cons (pv 2) pa_nil)) (pe_gi gM) (nomark _)) (pss_one (ps_ret (pe_lst (pa_cons (pe_gi gB) pa_nil)))) pss_nil)
      (pss_one (ps_ret (pe_has hT (hr.mono (by decide)) (pa_cons (pe_has hG hr (pa_cons (pv 2) (pa_cons (pv 0) (pa_cons (pv 1) pa_nil)))) pa_nil)))), ?_⟩
    have hlen := vN_len ns
    rw [st_bands_is] at q
    refine ⟨_, rfl, a, _, rfl, .inl hA, _, _, rfl, rfl, _, rfl, ite2 (fun e => ?_) (fun e => ?_)⟩
    · have e : (4096 : Int) < ((vN ns).length : Int) := of_decide_eq_true e
      rw [if_neg (by omega)] at q
      exact ⟨line_le (by show 1 ≤ _; decide), fun p hp => q _ p upd_same⟩
    · have e : ¬ (4096 : Int) < ((vN ns).length : Int) := fun h => e (decide_eq_true h)
      rw [if_pos (by omega)] at q
      refine ⟨_, rfl, _, rfl, _, rfl, a, ns, most, least, rfl, hA, by omega, fun H' o as B => ?_⟩
      exact ⟨o, as, _, rfl, B, Nat.le_trans (bands_few most least ns) (by omega), q⟩
theorem end_bands {H : Hp} {xs : List V} {z y : Int} {l : List Int} (hwi : (Codec.inInt 0 4294967295 z && (Codec.inInt 0 4294967295 y && ((Codec.inLen 0 4200 l && l.all (Codec.inInt 0 4294967295)) && true))) = true)
    (hx : DwAll K H xs [.int z, .int y, .list (l.map WData.int)]) : spStBands K xs H (fun v H' => Dw K H' v (.list ((PySh57.st_bands z y l).map WData.int))) fun _ _ _ => False := by
  rw [Bool.and_true, Bool.and_eq_true, Bool.and_eq_true] at hwi
  obtain ⟨most, rfl, _⟩ := nat_of hwi.1
  obtain ⟨least, rfl, _⟩ := nat_of hwi.2.1
  obtain ⟨ns, rfl, hl, hb⟩ := list_of hwi.2.2
  obtain ⟨v1, r1, rfl, e1, hx1⟩ := dw_one_of hx
  obtain ⟨v2, r2, rfl, e2, hx2⟩ := dw_one_of hx1
  obtain ⟨v, r, rfl, e, hx3⟩ := dw_one_of hx2
  obtain ⟨a, rfl, hS⟩ := list_dw e
  cases dw_nil_of hx3
  cases int_dw e1
  cases int_dw e2
  refine ⟨most, least, a, ns, rfl, ?_, hl, fun H' p hp => ans_dw hp⟩
  rw [vN_ints]
  exact hS
end
end Pg
namespace Pg
open PySem PySem.Spec PyProof.Rows L2
/-! ### what the top has written -/
theorem all_mk {P : Program} {w : World} {K : PySem.W.Frag} {h : Heap} {mg : Str → Option Value} {fa f1 f2 f3 f4 f5 : Addr} (X : K.In h) (G : h.Ns mainGlobals mg) (hfa : mg "st_bands" = some (.ref fa))
    {od1 od2 od3 od4 od5 an1 an2 an3 an4 an5 : Option Addr} {sl1 sl2 sl3 sl4 sl5 : Array (Option Value)} {oc1 oc2 oc3 oc4 oc5 kV1 kV2 kV3 kV4 kV5 dc1 dc2 dc3 dc4 dc5 pm1 pm2 pm3 pm4 pm5 cd1 cd2 cd3 cd4 cd5 ct1 ct2 ct3 ct4 ct5 : Value} {t3 t4 : Tok}
    (a1 : PySem.W.nsIn K mainGlobals "pieces" = some (some (.ref f1))) (l1 : K.lookup f1 = some ⟨oc1, od1, .func (PySem.W.fnOf "pieces" "pieces" (defArgs sPieces) (defBody sPieces) (defScope sPieces) .none kV1 dc1 pm1 an1 cd1 ct1), sl1⟩) (c1 : PySem.W.codeIn K cd1 "pieces" = true) (k1 : PySem.W.keepIn K (.ref f1) = true)
    (a2 : PySem.W.nsIn K mainGlobals "gaps" = some (some (.ref f2))) (l2 : K.lookup f2 = some ⟨oc2, od2, .func (PySem.W.fnOf "gaps" "gaps" (defArgs sGaps) (defBody sGaps) (defScope sGaps) .none kV2 dc2 pm2 an2 cd2 ct2), sl2⟩) (c2 : PySem.W.codeIn K cd2 "gaps" = true) (k2 : PySem.W.keepIn K (.ref f2) = true)
    (a3 : PySem.W.nsIn K mainGlobals "bands" = some (some (.ref f3))) (l3 : K.lookup f3 = some ⟨oc3, od3, .func (PySem.W.fnOf "bands" "bands" (defArgs sBands) (defBody sBands) (defScope sBands) .none kV3 dc3 pm3 an3 cd3 ct3), sl3⟩) (c3 : PySem.W.codeIn K cd3 "bands" = true) (k3 : PySem.W.keepIn K (.ref f3) = true)
    (a4 : PySem.W.nsIn K mainGlobals "pieces_told" = some (some (.ref f4))) (l4 : K.lookup f4 = some ⟨oc4, od4, .func (PySem.W.fnOf "pieces_told" "pieces_told" (defArgs sPiecesTold) (defBody sPiecesTold) (defScope sPiecesTold) .none kV4 dc4 pm4 an4 cd4 ct4), sl4⟩) (c4 : PySem.W.codeIn K cd4 "pieces_told" = true) (k4 : PySem.W.keepIn K (.ref f4) = true)
    (a5 : PySem.W.nsIn K mainGlobals "st_bands" = some (some (.ref f5))) (l5 : K.lookup f5 = some ⟨oc5, od5, .func (PySem.W.fnOf "st_bands" "st_bands" (defArgs sStBands) (defBody sStBands) (defScope sStBands) .none kV5 dc5 pm5 an5 cd5 ct5), sl5⟩) (c5 : PySem.W.codeIn K cd5 "st_bands" = true) (k5 : PySem.W.keepIn K (.ref f5) = true)
    (g1 : PySem.W.nsIn K mainGlobals "range" = some none)
    (g2 : PySem.W.nsIn K mainGlobals "len" = some none)
    (g3 : PySem.W.nsIn K mainGlobals "MOST_NUMBERS" = some (some (.int (4096) t3)))
    (g4 : PySem.W.nsIn K mainGlobals "BAD" = some (some (.int (-2) t4)))
    : ∃ fd : FuncData, (∀ (s : Shared) (us : List Value), us.length = (["most", "least", "l"] : List Str).length → BindsTo s fd ⟨us, []⟩ ((["most", "least", "l"] : List Str).zip us)) ∧ ∀ base : Heap, K.In base → base.Ns mainGlobals mg → FnOk P w K mg base CX0 4 fa fd ["most", "least", "l"] (spStBands K) := by
  have e := hfa.symm.trans (PySem.W.mg_of X G a5)
  cases e
  have F1 := fun_mk (st := sPieces) l1 c1 k1
  have F2 := fun_mk (st := sGaps) l2 c2 k2
  have F3 := fun_mk (st := sBands) l3 c3 k3
  have F4 := fun_mk (st := sPiecesTold) l4 c4 k4
  have F5 := fun_mk (st := sStBands) l5 c5 k5
  refine ⟨PySem.W.fnOf "st_bands" "st_bands" (defArgs sStBands) (defBody sStBands) (defScope sStBands) .none kV5 dc5 pm5 an5 cd5 ct5, fun s us hu => match us, hu with | [_, _, _], _ => .of_eq rfl, fun base _ _ => ?_⟩
  have H1 : Has P w K mg base "pieces" 1 ["marks"] (spPieces K) := ⟨_, _, ok_pieces F1 (PySem.W.mg_none_of X G g1) (PySem.W.mg_none_of X G g2), PySem.W.mg_of X G a1, k1, F1.binds (ps := ["marks"]) fun _ _ _ _ _ _ us hl => match us, hl with | [_], _ => rfl⟩
  have H2 : Has P w K mg base "gaps" 2 ["numbers", "most"] (spGaps K) := ⟨_, _, ok_gaps F2 H1, PySem.W.mg_of X G a2, k2, F2.binds (ps := ["numbers", "most"]) fun _ _ _ _ _ _ us hl => match us, hl with | [_, _], _ => rfl⟩
  have H3 : Has P w K mg base "bands" 3 ["numbers", "most", "least"] (spBands K) := ⟨_, _, ok_bands F3 H2 H1 (PySem.W.mg_none_of X G g1), PySem.W.mg_of X G a3, k3, F3.binds (ps := ["numbers", "most", "least"]) fun _ _ _ _ _ _ us hl => match us, hl with | [_, _, _], _ => rfl⟩
  have H4 : Has P w K mg base "pieces_told" 1 ["found"] (spPiecesTold K) := ⟨_, _, ok_pieces_told F4 (PySem.W.mg_none_of X G g2), PySem.W.mg_of X G a4, k4, F4.binds (ps := ["found"]) fun _ _ _ _ _ _ us hl => match us, hl with | [_], _ => rfl⟩
  exact ok_st_bands F5 H4 H3 (PySem.W.mg_none_of X G g2) (PySem.W.mg_of X G g3) (PySem.W.mg_of X G g4)
end Pg
open PySem PySem.W PyProof.Rows
set_option maxRecDepth 100000 in
set_option maxHeartbeats 0 in
theorem PySem.Challenge.cw_pagestraight_s08_st_bands_holds : PySem.Challenge.rw_pagestraight_s08_st_bands.Holds := by
  w_on; k_headS; (case hw => exact ⟨[.int 0, .int 0, .list []], by decide +kernel, by decide +kernel⟩)
  k_fillS
  refine L2.walk_specK (r := PySem.Challenge.rw_pagestraight_s08_st_bands) (k := 4) (CX := L2.CX0) (ps := ["most", "least", "l"]) (sp := fun K => Pg.spStBands K) (by decide +kernel) rfl rfl ⟨rfl, by decide, by decide⟩ (fun w h Y => PySem.W.kIn_of Y) ?F ?S (fun _ _ _ _ z => z)
  case F =>
    intro w mg fa h Y KX G hmg
    refine' Pg.all_mk KX G hmg ?a1 ?l1 ?c1 ?k1 ?a2 ?l2 ?c2 ?k2 ?a3 ?l3 ?c3 ?k3 ?a4 ?l4 ?c4 ?k4 ?a5 ?l5 ?c5 ?k5 ?g1 ?g2 ?g3 ?g4
    (case a1 => k_is)
    (case l1 => k_is)
    (case c1 => k_is)
    (case k1 => k_is)
    (case a2 => k_is)
    (case l2 => k_is)
    (case c2 => k_is)
    (case k2 => k_is)
    (case a3 => k_is)
    (case l3 => k_is)
    (case c3 => k_is)
    (case k3 => k_is)
    (case a4 => k_is)
    (case l4 => k_is)
    (case c4 => k_is)
    (case k4 => k_is)
    (case a5 => k_is)
    (case l5 => k_is)
    (case c5 => k_is)
    (case k5 => k_is)
    (case g1 => k_is)
    (case g2 => k_is)
    (case g3 => k_is)
    (case g4 => k_is)
  case S =>
    intro K H xs a hO hwi hask hx
    obtain ⟨x1, x2, x3, u⟩ := a
    exact Pg.end_bands hwi hx
#print axioms PySem.Challenge.cw_pagestraight_s08_st_bands_holds
