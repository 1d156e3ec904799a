import PyProof.Rows.All
import Wide.All
import OpenK.AllK
import Wide.FinOn
import Open.SpecLaws
import KE.OsHead
import KE.OsGo
import HandS.ForSpec
import HandS.Comp
import HandS.Iter
import HandS.Style
import HandS.Wide
import PySem.Challenge.RW_pagestraight_s14_st_shift1
set_option Elab.async false
set_option linter.all false
set_option maxRecDepth 100000
set_option maxHeartbeats 2000000
namespace Pg
open PySem PySem.Spec PyProof.Rows L2
/-! ### what the walks share -/
/-- a def that the text's globals name x: it keeps its promise and takes its arguments in order -/
def Has (P : Program) (w : World) (K : PySem.W.Frag) (mg : Str → Option Value) (base : Heap) (x : Str) (k : Nat) (ps : List Str) (sp : Sp) : Prop :=
  ∃ (f : Addr) (fd : FuncData), FnOk P w K mg base CX0 k f fd ps sp ∧ mg x = some (.ref f) ∧ PySem.W.keepIn K (.ref f) = true ∧ Binds K fd ps []
theorem pe_has {X : Cx} {x : Str} {k : Nat} {ps : List Str} {sp : Sp} {p pos : Pos} {e : Expr} {es : List Expr} {t : TA} (G : Has X.prog X.w X.K X.mg X.base x k ps sp) (hr : Room k X.A) (ha : PA X (e :: es) t) (hg : Gl X x := by rfl)
    (hdb : (x == ("__debug__" : Str)) = false := by decide) (he : starEach (e :: es) X.env = (false, eval e X.env) :: starEach es X.env := by rfl) (hpl : (backTo pos (starEach es X.env)).any (·.1) = false := by rfl) :
    PE X (.Call (.Name x p) (e :: es) [] pos) (tCall sp [] E0 t) := by
  obtain ⟨f, fd, F, hm, hk, hb⟩ := G
  exact pe_call F hr hg hm hk hb .nil pass0 ha hdb he hpl
/-- a whole number of the module, by its name -/
theorem pe_gi {X : Cx} {x : Str} {i : Int} {t : Tok} {pos : Pos} (hm : X.mg x = some (.int i t)) (hg : Gl X x := by rfl) (hd : (x == ("__debug__" : Str)) = false := by decide) : PE X (.Name x pos) (tC (.int i)) :=
  pe_glob (v := .int i) hg hm ⟨t, rfl⟩ hd
/-! rules whose reading names K alone: a comprehension's own context has the same -/
theorem ixK {X : Cx} {K : PySem.W.Frag} (h : X.K = K := by rfl) : IxR X (rIxL K) := h ▸ ix_list
theorem slK {X : Cx} {K : PySem.W.Frag} (h : X.K = K := by rfl) : SlR X (rSlL K) := h ▸ sl_list
theorem lenK {X : Cx} {K : PySem.W.Frag} (h : X.K = K := by rfl) : CallR X (.builtin "len") (fun xs H Q => ∃ p ys, xs = [.ref p] ∧ (SqL K H p ys ∨ SqT K H p ys) ∧ Q (.int ys.length) H) := h ▸ call_len_seq
theorem sumK {X : Cx} {K : PySem.W.Frag} (hc : X.calm = true) (h : X.K = K := by rfl) : CallR X (.builtin "sum") (rSum K) := h ▸ cr_sum hc
theorem pi_listK {X : Cx} {tg l : Expr} {tl : TE} {K : PySem.W.Frag} (hl : PE X l tl) (h : X.K = K := by rfl) : PI X tg l (iList K tl) := h ▸ pi_list hl
theorem same_upd {H : Hp} {p : Addr} {o : HO} (h : H p = none) : Same H (upd H p o) := fun b x e => by
  rw [upd_ne (ne_of_none e h)]
  exact e
/-- an object of ours, new since H, is written: what H tracked stays -/
theorem same_write {H H' : Hp} {p : Addr} {o : HO} (s : Same H H') (h : H p = none) : Same H (upd H' p o) := fun b x e => by
  rw [upd_ne (ne_of_none e h)]
  exact s b x e
theorem line_of {n : Nat} (h : n ≤ 1000000) : n < sizeLine := Nat.lt_of_le_of_lt h (by decide)
theorem line_le {n : Nat} (h : n ≤ 1000000) : n ≤ sizeLine := Nat.le_of_lt (line_of h)
theorem ix_ints {ns : List Int} {j : Nat} {z : Int} (h : ns[j]? = some z) : atI (ns.map V.int) (j : Int) = some (V.int z) := atI_nat (by rw [List.getElem?_map, h]; rfl)
/-- whole numbers from 0 on, as a list of values -/
def vN (l : List Nat) : List V := l.map fun (n : Nat) => V.int (n : Int)
theorem vN_len (l : List Nat) : (vN l).length = l.length := by simp [vN]
theorem vN_at {l : List Nat} {j : Nat} (h : j < l.length) : atI (vN l) (j : Int) = some (V.int ((l.getD j 0 : Nat) : Int)) := atI_nat (by simp [vN, h])
theorem vN_snoc (l : List Nat) (n : Nat) : vN (l ++ [n]) = vN l ++ [V.int (n : Int)] := by
  unfold vN
  rw [List.map_append]
  rfl
theorem vN_ints (l : List Nat) : vN l = (l.map fun n => ((n : Nat) : Int)).map V.int := by simp [vN]
end Pg
namespace Pg
open PySem PySem.Spec PyProof.Rows L2
open PySem.W (Codec WData)
/-! ### the arguments as they come, the answer as it goes -/
theorem nat_of {z hi : Int} (h : Codec.inInt 0 hi z = true) : ∃ n : Nat, z = (n : Int) ∧ (n : Int) ≤ hi := by
  obtain ⟨h0, h1⟩ := Codec.inInt_iff.mp h
  obtain ⟨n, rfl⟩ := Int.eq_ofNat_of_zero_le h0
  exact ⟨n, rfl, h1⟩
theorem nats_of {hi : Int} : ∀ {l : List Int}, l.all (Codec.inInt 0 hi) = true → ∃ ns : List Nat, l = ns.map (fun n => ((n : Nat) : Int)) ∧ ∀ n ∈ ns, (n : Int) ≤ hi
  | [], _ => ⟨[], rfl, fun _ h => nomatch h⟩
  | z :: r, h => by
    rw [List.all_cons, Bool.and_eq_true] at h
    obtain ⟨n, rfl, hn⟩ := nat_of h.1
    obtain ⟨ns, rfl, hs⟩ := nats_of h.2
    exact ⟨n :: ns, rfl, fun m hm => (List.mem_cons.mp hm).elim (fun e => e ▸ hn) (hs m)⟩
theorem list_of {hi : Int} {most : Nat} {l : List Int} (h : (Codec.inLen 0 most l && l.all (Codec.inInt 0 hi)) = true) : ∃ ns : List Nat, l = ns.map (fun n => ((n : Nat) : Int)) ∧ ns.length ≤ most ∧ ∀ n ∈ ns, (n : Int) ≤ hi := by
  rw [Bool.and_eq_true] at h
  obtain ⟨ns, rfl, hs⟩ := nats_of h.2
  refine ⟨ns, rfl, ?_, hs⟩
  have z := (Codec.inNat_iff.mp h.1).2
  rw [List.length_map] at z
  exact z
theorem int_dw {K : PySem.W.Frag} {H : Hp} {v : V} {z : Int} (h : Dw K H v (.int z)) : v = .int z := by
  cases h
  rfl
theorem list_dw {K : PySem.W.Frag} {H : Hp} {v : V} {l : List Int} (h : Dw K H v (.list (l.map WData.int))) : ∃ a, v = .ref a ∧ SqL K H a (l.map V.int) := by
  cases h with
  | lst hs ha =>
    have e := L2.ints_dw l _ ha
    subst e
    exact ⟨_, rfl, hs⟩
theorem dw_one_of {K : PySem.W.Frag} {H : Hp} {xs : List V} {d : WData} {ds : List WData} (h : DwAll K H xs (d :: ds)) : ∃ v vs, xs = v :: vs ∧ Dw K H v d ∧ DwAll K H vs ds := by
  cases h with
  | cons h1 h2 => exact ⟨_, _, rfl, h1, h2⟩
theorem dw_nil_of {K : PySem.W.Frag} {H : Hp} {xs : List V} (h : DwAll K H xs []) : xs = [] := by
  cases h
  rfl
/-- the answer: a list of ints stands at p -/
theorem ans_dw {K : PySem.W.Frag} {H : Hp} {p : Addr} {l : List Int} (h : H p = some (.lst (l.map V.int))) : Dw K H (.ref p) (.list (l.map WData.int)) := .lst (SqL.of h) (dw_ints _)
end Pg
namespace Pg
open PySem PySem.Spec PyProof.Rows L2
/-! ### the text by places -/
def topS (i : Nat) : Stmt := PySem.Challenge.pw_pagestraight_s14_st_shift1.main.body.getD i (.Pass ⟨0, 0, 0, 0⟩)
abbrev sSigned : Stmt := topS 2
abbrev sAsWord : Stmt := topS 3
abbrev sShear : Stmt := topS 4
abbrev sStShift1 : Stmt := topS 6
end Pg
namespace Pg
open PySem PySem.Spec PyProof.Rows L2
section
variable {P : Program} {w : World} {K : PySem.W.Frag} {mg : Str → Option Value} {base : Heap}
/-! ### signed -/
def spSigned : Sp := fun vs H Q _ => ∃ n : Nat, vs = [.int (n : Int)] ∧ Q (.int (Sh57Neutral.int32 n)) H
theorem scSigned : FnScope ["word"] ["word"] (defScope sSigned) := ⟨rfl, rfl, rfl, by decide +kernel, rfl, by decide +kernel, by decide +kernel⟩
theorem ok_signed {f : Addr} {fd : FuncData} {t : Tok} (F : Fun K "signed" "signed" sSigned f fd) (gW : mg "WORDS" = some (.int 4294967296 t)) : FnOk P w K mg base CX0 1 f fd ["word"] spSigned := by
  refine F.ok scSigned (fun vs H Q E h => ?_) (fun cdv A outer s H vs Q E hr h => ?_)
  · obtain ⟨n, rfl, _⟩ := h
    rfl
  · obtain ⟨n, rfl, q⟩ := h
    refine ⟨_, pss_cons (ps_if (pt_cmpR op_ge (pv 0) (pe_op op_fdiv (pe_gi gW) pe_int) (nomark _)) (pss_one (ps_ret (pe_op op_sub (pv 0) (pe_gi gW)))) pss_nil)
      (pss_one (ps_ret (pv 0))), ?_⟩
    refine ⟨_, rfl, _, _, rfl, rfl, ⟨by decide, by decide⟩, _, _, rfl, rfl, _, rfl, ite2 (fun e => ?_) (fun e => ?_)⟩
    · have e : (4294967296 : Int) / 2 ≤ (n : Int) := of_decide_eq_true e
      refine ⟨_, rfl, _, _, rfl, rfl, ?_⟩
      have z : Sh57Neutral.int32 n = (n : Int) - 4294967296 := if_neg (by omega)
      rw [z] at q
      exact q
    · have e : ¬ (4294967296 : Int) / 2 ≤ (n : Int) := fun h => e (decide_eq_true h)
      refine ⟨_, rfl, ?_⟩
      have z : Sh57Neutral.int32 n = (n : Int) := if_pos (by omega)
      rw [z] at q
      exact q
/-! ### shear -/
def spShear : Sp := fun vs H Q _ => ∃ (k : Int) (d c n : Nat), vs = [.int k, .int (d : Int), .int (c : Int), .int (n : Int)] ∧ 1 ≤ d ∧ d ≤ 4294967296 ∧ (-(2 ^ 64) < k ∧ k < 2 ^ 64) ∧ Q (.int (Sh57.shift n k d c)) H
theorem scShear : FnScope ["k", "d", "at", "many"] ["k", "d", "at", "many"] (defScope sShear) := ⟨rfl, rfl, rfl, by decide +kernel, rfl, by decide +kernel, by decide +kernel⟩
theorem ok_shear {f : Addr} {fd : FuncData} (F : Fun K "shear" "shear" sShear f fd) : FnOk P w K mg base CX0 1 f fd ["k", "d", "at", "many"] spShear := by
  refine F.ok scShear (fun vs H Q E h => ?_) (fun cdv A outer s H vs Q E hr h => ?_)
  · obtain ⟨k, d, c, n, rfl, _⟩ := h
    rfl
  · obtain ⟨k, d, c, n, rfl, h1, h2, h3, q⟩ := h
    refine ⟨_, pss_one (ps_ret (pe_op op_fdivW (pe_op op_add (pe_op op_mul (pv 0) (pe_op op_sub (pe_op op_mul pe_int (pv 2)) (pe_op op_sub (pv 3) pe_int))) (pv 1)) (pe_op op_mul pe_int (pv 1)))), ?_⟩
    refine ⟨_, rfl, _, rfl, _, _, rfl, rfl, .inl ⟨by decide, by decide⟩, _, rfl, _, _, rfl, rfl, _, _, rfl, rfl, _, _, rfl, rfl, .inl h3, _, rfl, _, _, rfl, rfl, _, rfl, _, _, rfl, rfl, .inl ⟨by decide, by decide⟩, _, _, rfl, rfl, wide_div (b := 40) (by omega) (by omega) (by decide) (by decide), ?_⟩
    have e : Sh57.shift n k d c = (k * (2 * (c : Int) - ((n : Int) - 1)) + (d : Int)) / (2 * (d : Int)) := by
      unfold Sh57.shift
      rw [Int.fdiv_eq_ediv_of_nonneg _ (by omega)]
    rw [e] at q
    exact q
end
end Pg
namespace Pg
open PySem PySem.Spec PyProof.Rows L2
section
variable {P : Program} {w : World} {K : PySem.W.Frag} {mg : Str → Option Value} {base : Heap}
/-! ### as_word -/
def spAsWord : Sp := fun vs H Q _ => ∃ i : Int, vs = [.int i] ∧ Q (.int (i % 4294967296)) H
theorem scAsWord : FnScope ["number"] ["number"] (defScope sAsWord) := ⟨rfl, rfl, rfl, by decide +kernel, rfl, by decide +kernel, by decide +kernel⟩
theorem ok_as_word {f : Addr} {fd : FuncData} {t : Tok} (F : Fun K "as_word" "as_word" sAsWord f fd) (gW : mg "WORDS" = some (.int 4294967296 t)) : FnOk P w K mg base CX0 1 f fd ["number"] spAsWord := by
  refine F.ok scAsWord (fun vs H Q E h => ?_) (fun cdv A outer s H vs Q E hr h => ?_)
  · obtain ⟨n, rfl, _⟩ := h
    rfl
  · obtain ⟨n, rfl, q⟩ := h
    refine ⟨_, pss_one (ps_ret (pe_op op_mod (pv 0) (pe_gi gW))), ?_⟩
    exact ⟨_, rfl, _, _, rfl, rfl, (by show (0 : Int) < 4294967296; decide), q⟩
end
end Pg
namespace Pg
open PySem PySem.Spec PyProof.Rows L2
open PySem.W (Codec WData)
/-! ### st_shift1 -/
theorem st_shift1_is (w k d c : Nat) : PySh57.st_shift1 (w : Int) (k : Int) (d : Int) (c : Int) = [Sh57.shift (max w 1) (Sh57Neutral.int32 k) (max d 1) c % 4294967296] := by
  show [(((Sh57.shift (max w 1) (Sh57Neutral.int32 k) (max d 1) c % 4294967296).toNat : Nat) : Int)] = _
  rw [Int.toNat_of_nonneg (Int.emod_nonneg _ (by decide))]
theorem max_int (n : Nat) : (if (n : Int) > 1 then (n : Int) else 1) = ((max n 1 : Nat) : Int) := by
  split <;> omega
section
variable {P : Program} {w : World} {K : PySem.W.Frag} {mg : Str → Option Value} {base : Heap}
def spStShift1 : Sp := fun vs H Q _ => ∃ a k d c : Nat, vs = [.int (a : Int), .int (k : Int), .int (d : Int), .int (c : Int)] ∧ k < 4294967296 ∧ d < 4294967296 ∧
  ∀ H' p, H' p = some (.lst ((PySh57.st_shift1 (a : Int) (k : Int) (d : Int) (c : Int)).map V.int)) → Q (.ref p) H'
theorem scStShift1 : FnScope ["w", "k", "d", "c"] ["w", "k", "d", "c"] (defScope sStShift1) := ⟨rfl, rfl, rfl, by decide +kernel, rfl, by decide +kernel, by decide +kernel⟩
theorem ok_st_shift1 {f : Addr} {fd : FuncData} (F : Fun K "st_shift1" "st_shift1" sStShift1 f fd) (hW : Has P w K mg base "as_word" 1 ["number"] spAsWord) (hS : Has P w K mg base "shear" 1 ["k", "d", "at", "many"] spShear) (hG : Has P w K mg base "signed" 1 ["word"] spSigned)
    (mm : mg "max" = none) : FnOk P w K mg base CX0 2 f fd ["w", "k", "d", "c"] spStShift1 := by
  refine F.ok scStShift1 (fun vs H Q E h => ?_) (fun cdv A outer s H vs Q E hr h => ?_)
  · obtain ⟨a, k, d, c, rfl, _⟩ := h
    rfl
  · obtain ⟨a, k, d, c, rfl, hk, hd, q⟩ := h
    refine ⟨_, pss_one (ps_ret (pe_lst (pa_cons (pe_has hW hr (pa_cons (pe_has hS hr (pa_cons (pe_has hG hr (pa_cons (pv 1) pa_nil)) (pa_cons (pe_callB (call_max2 rfl) (by rfl) mm (by decide +kernel) (pa_cons pe_int (pa_cons (pv 2) pa_nil)))
      (pa_cons (pv 3) (pa_cons (pe_callB (call_max2 rfl) (by rfl) mm (by decide +kernel) (pa_cons pe_int (pa_cons (pv 0) pa_nil))) pa_nil))))) pa_nil)) pa_nil))), ?_⟩
    refine ⟨_, rfl, k, rfl, _, rfl, _, _, rfl, _, rfl, _, rfl, _, _, rfl, Sh57Neutral.int32 k, max d 1, c, max a 1, ?_, by omega, by omega, ?_, _, rfl, line_le (by show 1 ≤ _; decide), fun p hp => ?_⟩
    · rw [max_int, max_int]
      rfl
    · unfold Sh57Neutral.int32
      split <;> omega
    · refine q _ p ?_
      rw [upd_same, st_shift1_is]
      rfl
theorem end_shift1 {K : PySem.W.Frag} {H : Hp} {xs : List V} {x1 x2 x3 x4 : Int} (hwi : (Codec.inInt 0 4294967295 x1 && (Codec.inInt 0 4294967295 x2 && (Codec.inInt 0 4294967295 x3 && (Codec.inInt 0 4294967295 x4 && true)))) = true)
    (hx : DwAll K H xs [.int x1, .int x2, .int x3, .int x4]) : spStShift1 xs H (fun v H' => Dw K H' v (.list ((PySh57.st_shift1 x1 x2 x3 x4).map WData.int))) fun _ _ _ => False := by
  simp only [Bool.and_eq_true] at hwi
  obtain ⟨b1, b2, b3, b4, _⟩ := hwi
  obtain ⟨a, rfl, _⟩ := nat_of b1
  obtain ⟨k, rfl, hk⟩ := nat_of b2
  obtain ⟨d, rfl, hd⟩ := nat_of b3
  obtain ⟨c, rfl, _⟩ := nat_of b4
  obtain ⟨v1, r1, rfl, e1, hx⟩ := dw_one_of hx
  obtain ⟨v2, r2, rfl, e2, hx⟩ := dw_one_of hx
  obtain ⟨v3, r3, rfl, e3, hx⟩ := dw_one_of hx
  obtain ⟨v4, r4, rfl, e4, hx⟩ := dw_one_of hx
  rw [int_dw e1, int_dw e2, int_dw e3, int_dw e4, dw_nil_of hx]
  exact ⟨a, k, d, c, rfl, by omega, by omega, fun H' p hp => ans_dw hp⟩
end
end Pg
namespace Pg
open PySem PySem.Spec PyProof.Rows L2
/-! ### what the top has written -/
theorem all_mk {P : Program} {w : World} {K : PySem.W.Frag} {h : Heap} {mg : Str → Option Value} {fa f1 f2 f3 f4 : Addr} (X : K.In h) (G : h.Ns mainGlobals mg) (hfa : mg "st_shift1" = some (.ref fa))
    {od1 od2 od3 od4 an1 an2 an3 an4 : Option Addr} {sl1 sl2 sl3 sl4 : Array (Option Value)} {oc1 oc2 oc3 oc4 kV1 kV2 kV3 kV4 dc1 dc2 dc3 dc4 pm1 pm2 pm3 pm4 cd1 cd2 cd3 cd4 ct1 ct2 ct3 ct4 : Value} {t1 : Tok}
    (a1 : PySem.W.nsIn K mainGlobals "signed" = some (some (.ref f1))) (l1 : K.lookup f1 = some ⟨oc1, od1, .func (PySem.W.fnOf "signed" "signed" (defArgs sSigned) (defBody sSigned) (defScope sSigned) .none kV1 dc1 pm1 an1 cd1 ct1), sl1⟩) (c1 : PySem.W.codeIn K cd1 "signed" = true) (k1 : PySem.W.keepIn K (.ref f1) = true)
    (a2 : PySem.W.nsIn K mainGlobals "as_word" = some (some (.ref f2))) (l2 : K.lookup f2 = some ⟨oc2, od2, .func (PySem.W.fnOf "as_word" "as_word" (defArgs sAsWord) (defBody sAsWord) (defScope sAsWord) .none kV2 dc2 pm2 an2 cd2 ct2), sl2⟩) (c2 : PySem.W.codeIn K cd2 "as_word" = true) (k2 : PySem.W.keepIn K (.ref f2) = true)
    (a3 : PySem.W.nsIn K mainGlobals "shear" = some (some (.ref f3))) (l3 : K.lookup f3 = some ⟨oc3, od3, .func (PySem.W.fnOf "shear" "shear" (defArgs sShear) (defBody sShear) (defScope sShear) .none kV3 dc3 pm3 an3 cd3 ct3), sl3⟩) (c3 : PySem.W.codeIn K cd3 "shear" = true) (k3 : PySem.W.keepIn K (.ref f3) = true)
    (a4 : PySem.W.nsIn K mainGlobals "st_shift1" = some (some (.ref f4))) (l4 : K.lookup f4 = some ⟨oc4, od4, .func (PySem.W.fnOf "st_shift1" "st_shift1" (defArgs sStShift1) (defBody sStShift1) (defScope sStShift1) .none kV4 dc4 pm4 an4 cd4 ct4), sl4⟩) (c4 : PySem.W.codeIn K cd4 "st_shift1" = true) (k4 : PySem.W.keepIn K (.ref f4) = true)
    (g1 : PySem.W.nsIn K mainGlobals "WORDS" = some (some (.int (4294967296) t1)))
    (g2 : PySem.W.nsIn K mainGlobals "max" = some none)
    : ∃ fd : FuncData, (∀ (s : Shared) (us : List Value), us.length = (["w", "k", "d", "c"] : List Str).length → BindsTo s fd ⟨us, []⟩ ((["w", "k", "d", "c"] : List Str).zip us)) ∧ ∀ base : Heap, K.In base → base.Ns mainGlobals mg → FnOk P w K mg base CX0 2 fa fd ["w", "k", "d", "c"] (spStShift1) := by
  have e := hfa.symm.trans (PySem.W.mg_of X G a4)
  cases e
  have F1 := fun_mk (st := sSigned) l1 c1 k1
  have F2 := fun_mk (st := sAsWord) l2 c2 k2
  have F3 := fun_mk (st := sShear) l3 c3 k3
  have F4 := fun_mk (st := sStShift1) l4 c4 k4
  refine ⟨PySem.W.fnOf "st_shift1" "st_shift1" (defArgs sStShift1) (defBody sStShift1) (defScope sStShift1) .none kV4 dc4 pm4 an4 cd4 ct4, fun s us hu => match us, hu with | [_, _, _, _], _ => .of_eq rfl, fun base _ _ => ?_⟩
  have H1 : Has P w K mg base "signed" 1 ["word"] (spSigned) := ⟨_, _, ok_signed F1 (PySem.W.mg_of X G g1), PySem.W.mg_of X G a1, k1, F1.binds (ps := ["word"]) fun _ _ _ _ _ _ us hl => match us, hl with | [_], _ => rfl⟩
  have H2 : Has P w K mg base "as_word" 1 ["number"] (spAsWord) := ⟨_, _, ok_as_word F2 (PySem.W.mg_of X G g1), PySem.W.mg_of X G a2, k2, F2.binds (ps := ["number"]) fun _ _ _ _ _ _ us hl => match us, hl with | [_], _ => rfl⟩
  have H3 : Has P w K mg base "shear" 1 ["k", "d", "at", "many"] (spShear) := ⟨_, _, ok_shear F3, PySem.W.mg_of X G a3, k3, F3.binds (ps := ["k", "d", "at", "many"]) fun _ _ _ _ _ _ us hl => match us, hl with | [_, _, _, _], _ => rfl⟩
  exact ok_st_shift1 F4 H2 H3 H1 (PySem.W.mg_none_of X G g2)
end Pg
open PySem PySem.W PyProof.Rows
set_option maxRecDepth 100000 in
set_option maxHeartbeats 0 in
theorem PySem.Challenge.cw_pagestraight_s14_st_shift1_holds : PySem.Challenge.rw_pagestraight_s14_st_shift1.Holds := by
  w_on; k_headS; (case hw => exact ⟨[.int 1, .int 0, .int 1, .int 0], by decide +kernel, by decide +kernel⟩)
  k_fillS
  refine L2.walk_specK (r := PySem.Challenge.rw_pagestraight_s14_st_shift1) (k := 2) (CX := L2.CX0) (ps := ["w", "k", "d", "c"]) (sp := fun K => Pg.spStShift1) (by decide +kernel) rfl rfl ⟨rfl, by decide, by decide⟩ (fun w h Y => PySem.W.kIn_of Y) ?F ?S (fun _ _ _ _ z => z)
  case F =>
    intro w mg fa h Y KX G hmg
    refine' Pg.all_mk KX G hmg ?a1 ?l1 ?c1 ?k1 ?a2 ?l2 ?c2 ?k2 ?a3 ?l3 ?c3 ?k3 ?a4 ?l4 ?c4 ?k4 ?g1 ?g2
    (case a1 => k_is)
    (case l1 => k_is)
    (case c1 => k_is)
    (case k1 => k_is)
    (case a2 => k_is)
    (case l2 => k_is)
    (case c2 => k_is)
    (case k2 => k_is)
    (case a3 => k_is)
    (case l3 => k_is)
    (case c3 => k_is)
    (case k3 => k_is)
    (case a4 => k_is)
    (case l4 => k_is)
    (case c4 => k_is)
    (case k4 => k_is)
    (case g1 => k_is)
    (case g2 => k_is)
  case S =>
    intro K H xs a hO hwi hask hx
    obtain ⟨x1, x2, x3, x4, u⟩ := a
    exact Pg.end_shift1 hwi hx
#print axioms PySem.Challenge.cw_pagestraight_s14_st_shift1_holds
