/- Sgc: SgL SgM SgN SgO. -/
import Derived.Test.YtfblaicifdgfiaaSgb
section
set_option linter.unusedVariables false
set_option linter.unusedSimpArgs false
set_option maxRecDepth 10000
namespace Go.Proofs.Ytfblaicifdgfiaa.Dg
open Go.LM
structure Sb where
  (k o wst pr sf m ro : Nat)
  (cs ps es : List Int)
def Sb.D (s : Sb) : SubD := ((s.k : Int), (s.o : Int), (s.wst : Int), (s.pr : Int), (s.sf : Int), s.cs, ((s.m : Int), (s.ro : Int), s.ps, s.es, ()), ())
def mids (wst : Nat) (l : List Int) : List Int := l.map (fun n => n / ((2 ^ wst : Nat) : Int))
def Sb.res (s : Sb) (mm : List Int) : List Int := if s.k = 2 then leftV (fixedC s.o) 0 s.o mm else leftV s.cs s.sf s.o mm
def Sb.warmN (s : Sb) (n : Nat) : Nat := if s.k = 0 then 1 else if s.k = 1 then n else s.o
def Sb.typ (s : Sb) : Nat := if s.k < 2 then s.k else if s.k = 2 then 8 + s.o else 31 + s.o
def Sb.lpcB (s : Sb) : List Bool := if s.k = 3 then bitsOf (s.pr - 1) 4 ++ (bitsOf s.sf 5 ++ sgBits s.pr s.cs) else []
def Sb.resB (s : Sb) (n : Nat) (mm : List Int) : List Bool := if s.k < 2 then [] else riceB s.m s.ro s.ps s.es (n / 2 ^ s.ro) s.o (s.res mm)
def Sb.bits (s : Sb) (W : Nat) (l : List Int) : List Bool := (bitsOf s.typ 7 ++ wsBits s.wst) ++ (sgBits (W - s.wst) ((mids s.wst l).take (s.warmN l.length)) ++ (s.lpcB ++ s.resB l.length (mids s.wst l)))
structure SbOK (s : Sb) (W : Nat) (l : List Int) : Prop where
  b1 : 1 ≤ l.length
  b2 : l.length ≤ 65535
  w1 : 1 ≤ W
  w2 : W ≤ 33
  ws : s.wst < W
  dv : ∀ n ∈ l, n / ((2 ^ s.wst : Nat) : Int) * ((2 ^ s.wst : Nat) : Int) = n
  ft : ∀ n ∈ l, fitsW W n
  k3 : s.k ≤ 3
  low : s.k < 2 → s.o = 0 ∧ s.m = 0 ∧ s.ro = 0 ∧ s.ps = [] ∧ s.es = []
  flat : s.k ≤ 2 → s.pr = 0 ∧ s.sf = 0 ∧ s.cs = []
  con : s.k = 0 → ∀ n ∈ l, n = l.getD 0 0
  fix : s.k = 2 → s.o ≤ 4
  lpc : s.k = 3 → 1 ≤ s.o ∧ s.o ≤ 32 ∧ 1 ≤ s.pr ∧ s.pr ≤ 15 ∧ s.sf ≤ 15 ∧ s.cs.length = s.o ∧ ∀ c ∈ s.cs, fitsW s.pr c
  ob : s.o ≤ l.length
  ri : 2 ≤ s.k → RiOK s.m s.ro s.ps s.es l.length s.o (s.res (mids s.wst l))
  w31 : s.wst ≤ 31
theorem mids_len (wst : Nat) (l : List Int) : (mids wst l).length = l.length := List.length_map _
theorem div_fits (W wst : Nat) (n : Int) (h : wst < W) (hn : fitsW W n) : fitsW (W - wst) (n / ((2 ^ wst : Nat) : Int)) := by
  unfold fitsW at hn ⊢
  have e : 2 ^ (W - 1) = 2 ^ (W - wst - 1) * 2 ^ wst := by rw [← Nat.pow_add]; congr 1; omega
  have hp : 0 < 2 ^ wst := Nat.pow_pos (by decide)
  rw [e] at hn
  generalize 2 ^ (W - wst - 1) = p at *
  generalize 2 ^ wst = q at *
  rw [Int.natCast_mul] at hn
  constructor
  · rw [Int.le_ediv_iff_mul_le (by omega), Int.neg_mul]; exact hn.1
  · exact Int.ediv_lt_of_lt_mul (by omega) hn.2
theorem fitsW_inR (W : Nat) (n : Int) (h1 : W ≤ 64) (h : fitsW W n) : inR n := by
  have hp : 2 ^ (W - 1) ≤ 2 ^ 63 := Nat.pow_le_pow_right (by decide) (by omega)
  unfold fitsW at h
  unfold inR
  generalize 2 ^ (W - 1) = p at *
  omega
theorem mids_fits (W wst : Nat) (l : List Int) (h : wst < W) (hn : ∀ n ∈ l, fitsW W n) : ∀ n ∈ mids wst l, fitsW (W - wst) n := fun n hm => by
  obtain ⟨x, hx, rfl⟩ := List.mem_map.1 hm
  exact div_fits W wst x h (hn x hx)
theorem head_eq (all : List Bool) (a W block : Nat) (s : Sb) (h : Bat all a (bitsOf s.typ 7 ++ wsBits s.wst)) (hb : all.length ≤ 1099511627776) (hw : s.wst < W) (hW : W ≤ 33) (k3 : s.k ≤ 3) (low : s.k < 2 → s.o = 0) (fix : s.k = 2 → s.o ≤ 4) (lpc : s.k = 3 → 1 ≤ s.o ∧ s.o ≤ 32) (ob : s.o ≤ block) :
    LQ.head ((block : Int), (W : Int)) (a : Int) (pk all) = some ((((s.k : Int), (s.o : Int), (s.wst : Int), 0, 0, [], (0, 0, [], [], ()), ()), true), ((a + (8 + s.wst) : Nat) : Int), pk all) := by
  obtain ⟨k, o, wst, pr, sf, m, ro, cs, ps, es⟩ := s
  have ht64 : Sb.typ ⟨k, o, wst, pr, sf, m, ro, cs, ps, es⟩ < 64 := by
    unfold Sb.typ
    simp only at *
    split
    · omega
    · split <;> omega
  have htv : (k < 2 ∧ o = 0 ∧ Sb.typ ⟨k, o, wst, pr, sf, m, ro, cs, ps, es⟩ = k) ∨ (k = 2 ∧ o ≤ 4 ∧ Sb.typ ⟨k, o, wst, pr, sf, m, ro, cs, ps, es⟩ = 8 + o) ∨ (k = 3 ∧ 1 ≤ o ∧ o ≤ 32 ∧ Sb.typ ⟨k, o, wst, pr, sf, m, ro, cs, ps, es⟩ = 31 + o) := by
    unfold Sb.typ
    simp only at *
    by_cases h2 : k < 2
    · exact .inl ⟨h2, low h2, if_pos h2⟩
    · by_cases h3 : k = 2
      · exact .inr (.inl ⟨h3, fix h3, by rw [if_neg h2, if_pos h3]⟩)
      · have := lpc (by omega)
        exact .inr (.inr ⟨by omega, this.1, this.2, by rw [if_neg h2, if_neg h3]⟩)
  generalize hT : Sb.typ ⟨k, o, wst, pr, sf, m, ro, cs, ps, es⟩ = T at h ht64 htv
  simp only at *
  have hws : wsBits wst = [decide (wst ≠ 0)] ++ (if wst = 0 then [] else unaB (wst - 1)) := by
    unfold wsBits
    by_cases h0 : wst = 0
    · subst h0; rfl
    · rw [show (wst == 0) = false from beq_eq_false_iff_ne.2 h0, cond_false, decide_eq_true h0, if_neg h0]; rfl
  rw [hws, ← List.append_assoc] at h
  have hg := Get_eq all _ a 8 h.left (by rw [List.length_append, bitsOf_len]; rfl) (by decide) hb
  rw [valB_snoc, valB_bitsOf, Nat.mod_eq_of_lt (by omega)] at hg
  have hb1 := toNat_lt2 (decide (wst ≠ 0))
  generalize hB : decide (wst ≠ 0) = b at hg hb1 h
  have hdiv : w64 (((2 * T + b.toNat : Nat) : Int) / 2) = (T : Int) := by rw [w64_id (by omega)]; omega
  have hand := and1 (2 * T + b.toNat) (by omega)
  have hmod : (2 * T + b.toNat) % 2 = b.toNat := by omega
  rw [hmod] at hand
  unfold LQ.head LQ.head.t
  dsimp only
  rw [Tr.run_bind]
  refine (bindT hg).trans ?_
  dsimp only
  rw [Tr.run_br, show ((0 : Int) != 0) = false from rfl, cond_false, Tr.run_bind, hdiv]
  refine (bindT (a := Sum.inl ((((a + 8 : Nat) : Int), pk all), (0, 0, 0, 0, 0, 0, 0), (k : Int), (o : Int), 0, 0, 0, 0, 0)) (by
    rcases htv with ⟨h2, rfl, rfl⟩ | ⟨rfl, h4, rfl⟩ | ⟨rfl, h1, h32, rfl⟩
    · rw [Tr.run_br, decide_eq_true (by omega), cond_true, Tr.run_ret]; rfl
    · have d1 : decide (((8 + o : Nat) : Int) < 2) = false := decide_eq_false (by omega)
      have d2 : decide (((8 + o : Nat) : Int) ≥ 8) = true := decide_eq_true (by omega)
      have d3 : decide (((8 + o : Nat) : Int) ≤ 12) = true := decide_eq_true (by omega)
      have e1 : w64 (((8 + o : Nat) : Int) - 8) = (o : Int) := by rw [w64_id (by omega)]; omega
      simp only [Tr.run_bind, Tr.run_br, Tr.run_ret, Tr.run_csl, Tr.run_csr, someBind, d1, d2, d3, e1, cond_true, cond_false]
      rfl
    · have d1 : decide (((31 + o : Nat) : Int) < 2) = false := decide_eq_false (by omega)
      have d2 : decide (((31 + o : Nat) : Int) ≥ 8) = true := decide_eq_true (by omega)
      have d3 : decide (((31 + o : Nat) : Int) ≤ 12) = false := decide_eq_false (by omega)
      have d4 : decide (((31 + o : Nat) : Int) ≥ 32) = true := decide_eq_true (by omega)
      have d5 : decide (((31 + o : Nat) : Int) ≤ 63) = true := decide_eq_true (by omega)
      have e1 : w64 (((31 + o : Nat) : Int) - 31) = (o : Int) := by rw [w64_id (by omega)]; omega
      simp only [Tr.run_bind, Tr.run_br, Tr.run_ret, Tr.run_csl, Tr.run_csr, someBind, d1, d2, d3, d4, d5, e1, cond_true, cond_false]
      rfl)).trans ?_
  rw [Tr.run_csl, Tr.run_bind]
  dsimp only
  rw [hand]
  refine (bindT (a := Sum.inr ((((a + (8 + wst) : Nat) : Int), pk all), (0, 0, 0, 0, 0, 0, 0), (k : Int), (o : Int), (wst : Int), 0, 0, 0, 0)) (by
    by_cases h0 : wst = 0
    · subst h0
      rw [← hB, Tr.run_br]; rfl
    · have hbt : b = true := by rw [← hB, decide_eq_true h0]
      rw [hbt, if_neg h0] at h
      have hr := h.right
      rw [List.length_append, bitsOf_len] at hr
      have hu := UnaryR_eq all (a + 8) (wst - 1) hr (by omega) hb
      rw [show wst - 1 + 1 = wst by omega] at hu
      rw [hbt, Tr.run_br, show (((true.toNat : Nat) : Int) == 1) = true from rfl, cond_true, Tr.run_bind]
      refine (bindT hu).trans ?_
      dsimp only
      rw [Tr.run_br, show ((0 : Int) != 0) = false from rfl, cond_false, Tr.run_ret, w64_id (by omega), show ((wst - 1 : Nat) : Int) + 1 = (wst : Int) by omega, Nat.add_assoc])).trans ?_
  rw [Tr.run_csr, Tr.run_bind]
  dsimp only
  refine (bindT (a := (true, (((a + (8 + wst) : Nat) : Int), pk all), (k : Int), (o : Int), (wst : Int), 0, 0, 0, 0)) (by
    rw [Tr.run_br, decide_eq_true (by omega), cond_true, Tr.run_ret, decide_eq_true (by omega)])).trans ?_
  rfl
theorem bodyF_eq (all : List Bool) (a W : Nat) (s : Sb) (l : List Int) (ok : SbOK s W l) (hb : all.length ≤ 1099511627776)
    (h : Bat all a (sgBits (W - s.wst) ((mids s.wst l).take (s.warmN l.length)) ++ (s.lpcB ++ s.resB l.length (mids s.wst l)))) :
    LQ.bodyF ((l.length : Int), ((W - s.wst : Nat) : Int)) ((a : Int), pk all) (s.k : Int) (s.o : Int) (s.wst : Int) 0 0 [] 0 0 [] [] = some ((mids s.wst l, true), (((a + (sgBits (W - s.wst) ((mids s.wst l).take (s.warmN l.length)) ++ (s.lpcB ++ s.resB l.length (mids s.wst l))).length : Nat) : Int), pk all), (s.k : Int), (s.o : Int), (s.wst : Int), (s.pr : Int), (s.sf : Int), s.cs, (s.m : Int), (s.ro : Int), s.ps, s.es) := by
  obtain ⟨b1, b2, w1, w2, ws, dv, ft, k3, low, flat, con, fix, lpc, ob, ri, w31⟩ := ok
  have hmf := mids_fits W s.wst l ws ft
  have hml := mids_len s.wst l
  generalize hmm : mids s.wst l = mm at *
  obtain ⟨k, o, wst, pr, sf, m, ro, cs, ps, es⟩ := s
  simp only at *
  have hwn : Sb.warmN ⟨k, o, wst, pr, sf, m, ro, cs, ps, es⟩ l.length ≤ l.length := by
    unfold Sb.warmN
    simp only
    split
    · exact b1
    · split
      · exact Nat.le_refl _
      · exact ob
  have hwarm : LQ.warm ((k : Int), (o : Int), (wst : Int), 0, 0, [], (0, 0, [], [], ()), ()) (l.length : Int) = some ((Sb.warmN ⟨k, o, wst, pr, sf, m, ro, cs, ps, es⟩ l.length : Nat) : Int) := by
    unfold LQ.warm LQ.warm.t Sb.warmN
    dsimp only
    by_cases h0 : k = 0
    · rw [if_pos h0, Tr.run_br, show ((k : Int) == 0) = true from beq_iff_eq.2 (by omega), cond_true, Tr.run_ret]; rfl
    · rw [if_neg h0, Tr.run_br, show ((k : Int) == 0) = false from beq_eq_false_iff_ne.2 (by omega), cond_false, Tr.run_br]
      by_cases h1 : k = 1
      · rw [if_pos h1, show ((k : Int) == 1) = true from beq_iff_eq.2 (by omega), cond_true, Tr.run_ret]
      · rw [if_neg h1, show ((k : Int) == 1) = false from beq_eq_false_iff_ne.2 (by omega), cond_false, Tr.run_ret]
  generalize hwv : Sb.warmN ⟨k, o, wst, pr, sf, m, ro, cs, ps, es⟩ l.length = wn at *
  have htl : (mm.take wn).length = wn := by rw [List.length_take]; omega
  have hnum := numbers_eq all a (W - wst) (mm.take wn) h.left (by omega) (by omega) (fun n hn => hmf n (List.mem_of_mem_take hn)) (by omega) hb
  rw [htl] at hnum
  have hsl : (sgBits (W - wst) (mm.take wn)).length = wn * (W - wst) := by rw [sgBits_len, htl]
  unfold LQ.bodyF LQ.bodyF.t
  dsimp only
  rw [Tr.run_bind]
  refine (bindT hwarm).trans ?_
  rw [Tr.run_bind]
  refine (bindT hnum).trans ?_
  rw [Tr.run_bind]
  dsimp only
  have hk1 : ((k : Int) == 1) = decide (k = 1) := by rw [Bool.eq_iff_iff, beq_iff_eq, decide_eq_true_eq]; omega
  have hk0 : ((k : Int) == 0) = decide (k = 0) := by rw [Bool.eq_iff_iff, beq_iff_eq, decide_eq_true_eq]; omega
  have hk3 : ((k : Int) == 3) = decide (k = 3) := by rw [Bool.eq_iff_iff, beq_iff_eq, decide_eq_true_eq]; omega
  have hk2 : ((k : Int) == 2) = decide (k = 2) := by rw [Bool.eq_iff_iff, beq_iff_eq, decide_eq_true_eq]; omega
  refine (bindT (a := (decide (k = 1), (((a + wn * (W - wst) : Nat) : Int), pk all), (k : Int), (o : Int), (wst : Int), 0, 0, [], 0, 0, [], [])) (by
    rw [Bool.not_true, Tr.run_br, cond_false, Tr.run_ret, hk1])).trans ?_
  dsimp only
  rw [Tr.run_br, hk0]
  by_cases e1 : k = 1
  · subst e1
    obtain ⟨rfl, rfl, rfl, rfl, rfl⟩ := low (by decide)
    obtain ⟨rfl, rfl, rfl⟩ := flat (by decide)
    have hwn1 : wn = l.length := by rw [← hwv]; rfl
    rw [decide_eq_true rfl, cond_true, Tr.run_ret, List.length_append, hsl, hwn1, List.take_of_length_le (by omega)]
    rfl
  rw [decide_eq_false e1, cond_false, Tr.run_br]
  by_cases e0 : k = 0
  · subst e0
    obtain ⟨rfl, rfl, rfl, rfl, rfl⟩ := low (by decide)
    obtain ⟨rfl, rfl, rfl⟩ := flat (by decide)
    have hwn1 : wn = 1 := by rw [← hwv]; rfl
    subst hwn1
    have hm0 : mm.take 1 = [mm.getD 0 0] := by rw [List.take_succ_eq_append_getElem (by omega), getD_lt _ _ (by omega)]; rfl
    have hrep : List.replicate l.length (mm.getD 0 0) = mm := by
      rw [← hml]
      refine (List.eq_replicate_iff.2 ⟨rfl, fun x hx => ?_⟩).symm
      rw [← hmm] at hx ⊢
      obtain ⟨y, hy, rfl⟩ := List.mem_map.1 hx
      have g1 : l.getD 0 0 = l[0] := getD_lt _ _ (by omega)
      have g2 : (mids wst l).getD 0 0 = l[0] / ((2 ^ wst : Nat) : Int) := by
        rw [getD_lt _ _ (by rw [mids_len]; omega)]
        simp [mids]
      rw [con rfl y hy, g2, g1]
    have hrp := RepI_eq (mm.getD 0 0) l.length b1 b2
    rw [hrep] at hrp
    rw [decide_eq_true rfl, cond_true, Tr.run_bind, hm0]
    refine (bindT hrp).trans ?_
    rw [Tr.run_ret, ← hm0, List.length_append, hsl]
    rfl
  rw [decide_eq_false e0, cond_false, Tr.run_bind, hk3]
  have hk23 : 2 ≤ k := by omega
  have hwno : wn = o := by rw [← hwv]; unfold Sb.warmN; simp only; rw [if_neg e0, if_neg e1]
  have hri := ri hk23
  have hrB : Sb.resB ⟨k, o, wst, pr, sf, m, ro, cs, ps, es⟩ l.length mm = riceB m ro ps es (l.length / 2 ^ ro) o (Sb.res ⟨k, o, wst, pr, sf, m, ro, cs, ps, es⟩ mm) := by unfold Sb.resB; simp only; rw [if_neg (by omega)]
  rw [hrB] at h ⊢
  have h2 := h.right
  rw [hsl] at h2
  have hrng : ∀ x ∈ mm, -9223372036854775808 ≤ x ∧ x < 9223372036854775808 := fun x hx => fitsW_inR _ x (by omega) (hmf x hx)
  have hdec := rDec_eq all (a + wn * (W - wst) + (Sb.lpcB ⟨k, o, wst, pr, sf, m, ro, cs, ps, es⟩).length) m ro l.length o ps es _ hri h2.right hb
  refine (bindT (a := (false, (((a + wn * (W - wst) + (Sb.lpcB ⟨k, o, wst, pr, sf, m, ro, cs, ps, es⟩).length : Nat) : Int), pk all), (k : Int), (o : Int), (wst : Int), (pr : Int), (sf : Int), cs, 0, 0, [], [])) (by
    by_cases e3 : k = 3
    · obtain ⟨l1, l2, l3, l4, l5, l6, l7⟩ := lpc e3
      have hlp : Sb.lpcB ⟨k, o, wst, pr, sf, m, ro, cs, ps, es⟩ = bitsOf (pr - 1) 4 ++ (bitsOf sf 5 ++ sgBits pr cs) := by unfold Sb.lpcB; simp only; rw [if_pos e3]
      have h3 := h2.left
      rw [hlp] at h3 ⊢
      have hc := coefs_eq all (a + wn * (W - wst)) k o wst pr sf 0 0 cs [] [] 0 0 [] h3 l3 l4 l5 l7 l6 l2 hb
      rw [decide_eq_true e3, Tr.run_br, cond_true, Tr.run_bind]
      refine (bindT hc).trans ?_
      rw [Tr.run_ret, List.length_append, List.length_append, bitsOf_len, bitsOf_len, sgBits_len, l6]
      have : a + wn * (W - wst) + 9 + o * pr = a + wn * (W - wst) + (4 + (5 + o * pr)) := by omega
      rw [this]
      rfl
    · obtain ⟨rfl, rfl, rfl⟩ := flat (by omega)
      have hlp : Sb.lpcB ⟨k, o, wst, 0, 0, m, ro, [], ps, es⟩ = [] := by unfold Sb.lpcB; simp only; rw [if_neg e3]
      rw [hlp, decide_eq_false e3, Tr.run_br, cond_false, Tr.run_ret]
      rfl)).trans ?_
  dsimp only
  rw [Tr.run_br, cond_false, Tr.run_bind]
  refine (bindT hdec).trans ?_
  dsimp only
  rw [Tr.run_br, show ((0 : Int) != 0) = false from rfl, cond_false, Tr.run_bind, hk2]
  have hfin : a + wn * (W - wst) + (Sb.lpcB ⟨k, o, wst, pr, sf, m, ro, cs, ps, es⟩).length + (riceB m ro ps es (l.length / 2 ^ ro) o (Sb.res ⟨k, o, wst, pr, sf, m, ro, cs, ps, es⟩ mm)).length = a + (sgBits (W - wst) (mm.take wn) ++ (Sb.lpcB ⟨k, o, wst, pr, sf, m, ro, cs, ps, es⟩ ++ riceB m ro ps es (l.length / 2 ^ ro) o (Sb.res ⟨k, o, wst, pr, sf, m, ro, cs, ps, es⟩ mm))).length := by
    rw [List.length_append, List.length_append, hsl]; omega
  rw [hfin]
  refine (bindT (a := (mm, 0, (((a + (sgBits (W - wst) (mm.take wn) ++ (Sb.lpcB ⟨k, o, wst, pr, sf, m, ro, cs, ps, es⟩ ++ riceB m ro ps es (l.length / 2 ^ ro) o (Sb.res ⟨k, o, wst, pr, sf, m, ro, cs, ps, es⟩ mm))).length : Nat) : Int), pk all), (k : Int), (o : Int), (wst : Int), (pr : Int), (sf : Int), cs, (m : Int), (ro : Int), ps, es)) (by
    rw [hwno]
    by_cases e2 : k = 2
    · have hu := Unfixed_eq o mm (fix e2) (by omega) (by omega) hrng
      have hres : Sb.res ⟨k, o, wst, pr, sf, m, ro, cs, ps, es⟩ mm = leftV (fixedC o) 0 o mm := by unfold Sb.res; simp only; rw [if_pos e2]
      rw [decide_eq_true e2, Tr.run_br, cond_true, Tr.run_bind, hres]
      refine (bindT hu).trans ?_
      rfl
    · obtain ⟨l1, l2, l3, l4, l5, l6, l7⟩ := lpc (by omega)
      have hu := Unlpc_eq cs mm sf (by omega) (by omega) (by omega) (by omega) (by omega) hrng
      rw [l6] at hu
      have hres : Sb.res ⟨k, o, wst, pr, sf, m, ro, cs, ps, es⟩ mm = leftV cs sf o mm := by unfold Sb.res; simp only; rw [if_neg e2]
      rw [decide_eq_false e2, Tr.run_br, cond_false, Tr.run_bind, hres]
      refine (bindT hu).trans ?_
      rfl)).trans ?_
  rfl
end Go.Proofs.Ytfblaicifdgfiaa.Dg
end

section
set_option linter.unusedVariables false
set_option linter.unusedSimpArgs false
set_option maxRecDepth 10000
namespace Go.Proofs.Ytfblaicifdgfiaa.Dg
open Go.LM
theorem DecodeF_eq (all : List Bool) (W : Nat) (s : Sb) (l : List Int) (ok : SbOK s W l) (hb : all.length ≤ 1099511627776) (h : Bat all 0 (s.bits W l)) :
    LQ.DecodeF ((l.length : Int), (W : Int)) 0 (pk all) = some ((l, s.D, 0), ((s.bits W l).length : Int), pk all) := by
  have okk := ok
  obtain ⟨b1, b2, w1, w2, ws, dv, ft, k3, low, flat, con, fix, lpc, ob, ri, w31⟩ := okk
  have hhead := head_eq all 0 W l.length s h.left hb ws w2 k3 (fun e => (low e).1) fix (fun e => ⟨(lpc e).1, (lpc e).2.1⟩) ob
  have hr := h.right
  rw [List.length_append, bitsOf_len, wsBits_len] at hr
  have hbody := bodyF_eq all (0 + (7 + (s.wst + 1))) W s l ok hb hr
  have hcon := ConG_eq (mids s.wst l) (W : Int) (s.k : Int) (s.o : Int) (s.pr : Int) (s.sf : Int) (s.m : Int) (s.ro : Int) s.wst (W - s.wst) s.cs s.ps s.es (by rw [show s.wst + (W - s.wst) = W by omega]) (by omega) (by omega) (by omega) (mids_fits W s.wst l ws ft) (by rw [mids_len]; omega)
  have huns := Unshift_eq l s.wst (by omega) (by omega) (fun n hn => ⟨dv n hn, fitsW_inR W n (by omega) (ft n hn)⟩)
  have hlen : (s.bits W l).length = 0 + (7 + (s.wst + 1)) + (sgBits (W - s.wst) ((mids s.wst l).take (s.warmN l.length)) ++ (s.lpcB ++ s.resB l.length (mids s.wst l))).length := by
    unfold Sb.bits
    generalize sgBits (W - s.wst) ((mids s.wst l).take (s.warmN l.length)) ++ (s.lpcB ++ s.resB l.length (mids s.wst l)) = X
    rw [List.length_append, List.length_append, bitsOf_len, wsBits_len]; omega
  unfold LQ.DecodeF LQ.DecodeF.t
  dsimp only
  have d1 : decide ((l.length : Int) < 1) = false := decide_eq_false (by omega)
  have d2 : decide ((l.length : Int) > 65535) = false := decide_eq_false (by omega)
  have d3 : decide ((W : Int) < 1) = false := decide_eq_false (by omega)
  have d4 : decide ((W : Int) > 33) = false := decide_eq_false (by omega)
  rw [Tr.run_bind]
  refine (bindT (a := (false, ((0 : Int), pk all), (W : Int), 0, 0, 0, 0, 0, 0, 0)) (by
    rw [Tr.run_br, cond_false, Tr.run_br, d1, cond_false, Tr.run_br, d2, cond_false, Tr.run_br, d3, cond_false, Tr.run_ret, d4])).trans ?_
  dsimp only
  rw [Tr.run_br, cond_false, Tr.run_bind]
  refine (bindT hhead).trans ?_
  dsimp only
  have hwv : w64 ((W : Int) - (s.wst : Int)) = ((W - s.wst : Nat) : Int) := by rw [w64_id (by omega)]; omega
  rw [Bool.not_true, Tr.run_br, cond_false, Tr.run_bind, hwv, show 0 + (8 + s.wst) = 0 + (7 + (s.wst + 1)) by omega]
  refine (bindT hbody).trans ?_
  dsimp only
  rw [Tr.run_bind, ← hlen]
  refine (bindT (a := (false, (((s.bits W l).length : Int), pk all), (0, 0, 0, 0, 0, 0, 0), (s.k : Int), (s.o : Int), (s.wst : Int), (s.pr : Int), (s.sf : Int), s.cs, (s.m : Int), (s.ro : Int), s.ps, s.es)) (by
    rw [Bool.not_true, Tr.run_br, cond_false, Tr.run_bind]
    refine (bindT hcon).trans ?_
    rfl)).trans ?_
  dsimp only
  rw [Tr.run_br, cond_false, Tr.run_bind]
  refine (bindT huns).trans ?_
  rfl
theorem r8Same_self (m ro : Int) (ps es : List Int) (h1 : ps.length ≤ 1048576) (h2 : es.length ≤ 1048576) : LQ.r8Same (m, ro, ps, es, ()) (m, ro, ps, es, ()) = some true := by
  have l0 := loopO_steps (f := fun (d : Int × (Int × Int × List Int × List Int) × Int × Int × List Int × List Int) ↦ (LQ.r8Same.l0 d.fst d.snd.fst d.snd.snd.fst d.snd.snd.snd.fst d.snd.snd.snd.snd.fst d.snd.snd.snd.snd.snd).run) (fun i => ((i : Int), (m, ro, ps, es), m, ro, ps, es)) (r := .inr ((m, ro, ps, es), m, ro, ps, es)) ps.length (fun i hi => by
      unfold LQ.r8Same.l0
      dsimp only
      rw [Tr.run_br, decide_eq_true (by simp only [Int.ofNat_eq_natCast]; omega), cond_true, Tr.run_need _ (by simp only [Int.ofNat_eq_natCast]; omega), Tr.run_need _ (by simp only [Int.ofNat_eq_natCast]; omega), bne_self_eq_false, Tr.run_br, cond_false, Tr.run_ret, w64_id (by omega)]
      rfl) (by
      unfold LQ.r8Same.l0
      dsimp only
      rw [Tr.run_br, decide_eq_false (by simp only [Int.ofNat_eq_natCast]; omega), cond_false, Tr.run_ret])
  have l1 := loopO_steps (f := fun (d : Int × (Int × Int × List Int × List Int) × Int × Int × List Int × List Int) ↦ (LQ.r8Same.l1 d.fst d.snd.fst d.snd.snd.fst d.snd.snd.snd.fst d.snd.snd.snd.snd.fst d.snd.snd.snd.snd.snd).run) (fun i => ((i : Int), (m, ro, ps, es), m, ro, ps, es)) (r := .inr ()) es.length (fun i hi => by
      unfold LQ.r8Same.l1
      dsimp only
      rw [Tr.run_br, decide_eq_true (by simp only [Int.ofNat_eq_natCast]; omega), cond_true, Tr.run_need _ (by simp only [Int.ofNat_eq_natCast]; omega), Tr.run_need _ (by simp only [Int.ofNat_eq_natCast]; omega), bne_self_eq_false, Tr.run_br, cond_false, Tr.run_ret, w64_id (by omega)]
      rfl) (by
      unfold LQ.r8Same.l1
      dsimp only
      rw [Tr.run_br, decide_eq_false (by simp only [Int.ofNat_eq_natCast]; omega), cond_false, Tr.run_ret])
  unfold LQ.r8Same LQ.r8Same.t
  dsimp only
  rw [Tr.run_bind]
  refine (bindT (a := (false, (m, ro, ps, es), m, ro, ps, es)) (by
    simp only [bne_self_eq_false, Tr.run_br, cond_false, Tr.run_ret])).trans ?_
  dsimp only
  rw [Tr.run_br, cond_false, Tr.run_bind]
  refine (bindT l0).trans ?_
  rw [Tr.run_csr, Tr.run_bind]
  dsimp only
  refine (bindT l1).trans ?_
  rfl
theorem r10Same_self (s : SubD) (h0 : s.2.2.2.2.2.1.length ≤ 1048576) (h1 : s.2.2.2.2.2.2.1.2.2.1.length ≤ 1048576) (h2 : s.2.2.2.2.2.2.1.2.2.2.1.length ≤ 1048576) : LQ.r10Same s s = some true := by
  obtain ⟨k, o, w, p, sf, cs, ⟨m, ro, ps, es, u⟩, u2⟩ := s
  have a1 := r8Same_self m ro ps es h1 h2
  have a0 := rInts_self cs h0
  unfold LQ.r10Same LQ.r10Same.t
  dsimp only
  simp only [beq_self_eq_true, Tr.run_bind, Tr.run_br, cond_true, a0, someBind, a1, Tr.run_ret]
end Go.Proofs.Ytfblaicifdgfiaa.Dg
end

section
set_option linter.unusedVariables false
set_option linter.unusedSimpArgs false
set_option maxRecDepth 10000
namespace Go.LM
open Go
theorem loopO_ex {D R : Type} {f : D → Option (D ⊕ R)} (P : Nat → Prop) (bad good : R) : ∀ (N : Nat) (S : Nat → D), (∀ i, i < N → (P i ∧ f (S i) = some (.inl (S (i + 1)))) ∨ f (S i) = some (.inr bad)) → f (S N) = some (.inr good) →
    (loopO f (S 0) = some good ∧ ∀ i, i < N → P i) ∨ loopO f (S 0) = some bad := by
  intro N
  induction N generalizing P with
  | zero => intro S _ h; exact .inl ⟨loopO_done h, fun i hi => by omega⟩
  | succ N ih =>
    intro S hs h
    rcases hs 0 (by omega) with ⟨hp, h0⟩ | h0
    · have := ih (fun i => P (i + 1)) (fun i => S (i + 1)) (fun i hi => hs (i + 1) (by omega)) h
      rw [loopO_next h0]
      rcases this with ⟨a, b⟩ | a
      · refine .inl ⟨a, fun i hi => ?_⟩
        cases i with
        | zero => exact hp
        | succ i => exact b i (by omega)
      · exact .inr a
    · exact .inr (loopO_done h0)
theorem loopO_ex2 {D R : Type} {f : D → Option (D ⊕ R)} (P : Nat → Prop) (bad good : R) : ∀ (N : Nat) (S : Nat → D), (∀ i, i < N → (P i ∧ f (S i) = some (.inl (S (i + 1)))) ∨ (¬ P i ∧ f (S i) = some (.inr bad))) → f (S N) = some (.inr good) →
    (loopO f (S 0) = some good ∧ ∀ i, i < N → P i) ∨ (loopO f (S 0) = some bad ∧ ¬ ∀ i, i < N → P i) := by
  intro N
  induction N generalizing P with
  | zero => intro S _ h; exact .inl ⟨loopO_done h, fun i hi => by omega⟩
  | succ N ih =>
    intro S hs h
    rcases hs 0 (by omega) with ⟨hp, h0⟩ | ⟨hp, h0⟩
    · have := ih (fun i => P (i + 1)) (fun i => S (i + 1)) (fun i hi => hs (i + 1) (by omega)) h
      rw [loopO_next h0]
      rcases this with ⟨a, b⟩ | ⟨a, b⟩
      · refine .inl ⟨a, fun i hi => ?_⟩
        cases i with
        | zero => exact hp
        | succ i => exact b i (by omega)
      · exact .inr ⟨a, fun hall => b fun i hi => hall (i + 1) (by omega)⟩
    · exact .inr ⟨loopO_done h0, fun hall => hp (hall 0 (by omega))⟩
theorem andn_nil (m : Int) (h : inR m) (h0 : w64 (bitsI Go.BinOp.andNot Go.IntKind.i64 m 1) = 0) : m = 0 ∨ m = 1 := by
  have hx : bitsI Go.BinOp.andNot Go.IntKind.i64 m 1 = ((BitVec.ofInt 64 m &&& ~~~(BitVec.ofInt 64 1)).toNat : Int) := rfl
  rw [hx] at h0
  have hlt := (BitVec.ofInt 64 m &&& ~~~(BitVec.ofInt 64 1)).isLt
  generalize hq : (BitVec.ofInt 64 m &&& ~~~(BitVec.ofInt 64 1)).toNat = q at h0 hlt
  have hq0 : q = 0 := by
    have h1 : IntKind.i64.wrap (q : Int) = 0 := h0
    rw [IntKind.wrap_i64] at h1; omega
  rw [hq0] at hq
  have hz : BitVec.ofInt 64 m &&& ~~~(BitVec.ofInt 64 1) = 0#64 := BitVec.eq_of_toNat_eq hq
  have hid : BitVec.ofInt 64 m = BitVec.ofInt 64 m &&& BitVec.ofInt 64 1 := by
    have : BitVec.ofInt 64 m = (BitVec.ofInt 64 m &&& ~~~(BitVec.ofInt 64 1)) ||| (BitVec.ofInt 64 m &&& BitVec.ofInt 64 1) := by
      apply BitVec.eq_of_getLsbD_eq
      intro i hi
      simp only [BitVec.getLsbD_or, BitVec.getLsbD_and, BitVec.getLsbD_not, decide_eq_true hi, Bool.true_and]
      cases (BitVec.ofInt 64 m).getLsbD i <;> cases (BitVec.ofInt 64 1).getLsbD i <;> rfl
    rw [hz, BitVec.zero_or] at this
    exact this
  have hn : (BitVec.ofInt 64 m).toNat < 2 := by
    rw [hid, BitVec.toNat_and, show (BitVec.ofInt 64 1).toNat = 2 ^ 1 - 1 by decide, Nat.and_two_pow_sub_one_eq_mod]
    omega
  rw [BitVec.toNat_ofInt] at hn
  unfold inR at h
  omega
theorem fit_of (n : Int) (W : Nat) (h1 : 1 ≤ W) (h2 : W ≤ 63) (h : inR n) (e : n / ((2 ^ (W - 1) : Nat) : Int) = n / 9223372036854775808) : fitsW W n := by
  have hp0 : 0 < 2 ^ (W - 1) := Nat.pow_pos (by decide)
  unfold fitsW
  unfold inR at h
  generalize 2 ^ (W - 1) = p at *
  have hm := Int.emod_nonneg n (b := (p : Int)) (by omega)
  have hm2 := Int.emod_lt_of_pos n (b := (p : Int)) (by omega)
  have hd := Int.mul_ediv_add_emod n (p : Int)
  by_cases hn : n < 0
  · have : n / 9223372036854775808 = -1 := by omega
    rw [e, this, Int.mul_neg, Int.mul_one] at hd
    omega
  · have : n / 9223372036854775808 = 0 := by omega
    rw [e, this, Int.mul_zero] at hd
    omega
end Go.LM
namespace Go.Proofs.Ytfblaicifdgfiaa.Dg
open Go.LM
theorem sfits_dec (n : Int) (W : Nat) (h1 : 1 ≤ W) (h2 : W ≤ 63) (h : inR n) : (fitsW W n ∧ LQ.sfits n (W : Int) = some true) ∨ LQ.sfits n (W : Int) = some false := by
  by_cases hf : fitsW W n
  · exact .inl ⟨hf, sfits_eq n W h1 h2 hf⟩
  · right
    unfold LQ.sfits LQ.sfits.t
    have e1 : w64 ((W : Int) - 1) = ((W - 1 : Nat) : Int) := by rw [w64_id (by omega)]; omega
    rw [e1, Tr.run_need _ (by omega), Tr.run_ret, p2_nat _ _ (by omega)]
    have : (n / ((2 ^ (W - 1) : Nat) : Int) == n / 9223372036854775808) = false := by
      cases hb : (n / ((2 ^ (W - 1) : Nat) : Int) == n / 9223372036854775808) with
      | false => rfl
      | true => exact absurd (fit_of n W h1 h2 h (beq_iff_eq.1 hb)) hf
    rw [this]
theorem bfits_dec (n : Int) (W : Nat) (h1 : 1 ≤ W) (h2 : W ≤ 63) (h : inR n) : (fitsW W n ∧ LQ.bfits n (W : Int) = some true) ∨ (¬ fitsW W n ∧ LQ.bfits n (W : Int) = some false) := by
  by_cases hf : fitsW W n
  · exact .inl ⟨hf, bfits_eq n W h1 h2 hf⟩
  · right
    refine ⟨hf, ?_⟩
    unfold LQ.bfits LQ.bfits.t
    have e1 : w64 ((W : Int) - 1) = ((W - 1 : Nat) : Int) := by rw [w64_id (by omega)]; omega
    rw [Tr.run_bind, Tr.run_br, decide_eq_true (by omega), cond_true, Tr.run_br, decide_eq_true (by omega), cond_true, e1, Tr.run_need _ (by omega), p2_nat _ _ (by omega), Tr.run_ret, someBind, Tr.run_ret]
    have : (n / ((2 ^ (W - 1) : Nat) : Int) == n / 9223372036854775808) = false := by
      cases hb : (n / ((2 ^ (W - 1) : Nat) : Int) == n / 9223372036854775808) with
      | false => rfl
      | true => exact absurd (fit_of n W h1 h2 h (beq_iff_eq.1 hb)) hf
    rw [this]
theorem sig1_no (n : Int) (W : Nat) (a : Int) (row : List UInt8) (h : LQ.bfits n (W : Int) = some false) : LQ.sig1 (n, (W : Int)) a row = some (11, a, row) := by
  unfold LQ.sig1 LQ.sig1.t
  dsimp only
  rw [Tr.run_br, cond_false, Tr.run_bind, h, someBind, Tr.run_br]; rfl
structure RcOK (m ro : Nat) (ps es : List Int) (block order : Nat) : Prop where
  hm : m = 0 ∨ m = 1
  ro15 : ro ≤ 15
  b1 : 1 ≤ block
  b2 : block ≤ 65535
  o32 : order ≤ 32
  dv : block / 2 ^ ro * 2 ^ ro = block
  ge : order ≤ block / 2 ^ ro
  lp : ps.length = 2 ^ ro
  le : es.length = 2 ^ ro
  kk : ∀ i, i < 2 ^ ro → 0 ≤ ps.getD i 0 ∧ ps.getD i 0 < ((2 ^ (4 + m) - 1 : Nat) : Int) ∧ -1 ≤ es.getD i 0 ∧ es.getD i 0 ≤ 31 ∧ (0 ≤ es.getD i 0 → ps.getD i 0 = 0)
theorem rshape_dec (m ro : Int) (block order : Nat) (ps es : List Int) (hm : inR m) (hb : 1 ≤ block ∧ block ≤ 65535) (ho : order ≤ 32) :
    (∃ m' ro' : Nat, m = (m' : Int) ∧ ro = (ro' : Int) ∧ (m' = 0 ∨ m' = 1) ∧ ro' ≤ 15 ∧ block / 2 ^ ro' * 2 ^ ro' = block ∧ order ≤ block / 2 ^ ro' ∧ LQ.rshape (m, ro, ps, es, ()) (block : Int) (order : Int) = some true) ∨ LQ.rshape (m, ro, ps, es, ()) (block : Int) (order : Int) = some false := by
  have d3 : decide ((block : Int) < 1) = false := decide_eq_false (by omega)
  have d4 : decide ((block : Int) > 65535) = false := decide_eq_false (by omega)
  have d5 : decide ((order : Int) < 0) = false := decide_eq_false (by omega)
  have d6 : decide ((order : Int) > 32) = false := decide_eq_false (by omega)
  by_cases c0 : w64 (bitsI Go.BinOp.andNot Go.IntKind.i64 m 1) = 0
  rotate_left
  · right
    unfold LQ.rshape LQ.rshape.t
    dsimp only
    rw [Tr.run_bind, Tr.run_br, bne_iff_ne.2 c0, cond_true, Tr.run_ret, someBind, Tr.run_br]; rfl
  have hm01 := andn_nil m hm c0
  have d0 : (w64 (bitsI Go.BinOp.andNot Go.IntKind.i64 m 1) != 0) = false := by rw [c0]; rfl
  by_cases c1 : ro < 0
  · right
    unfold LQ.rshape LQ.rshape.t
    dsimp only
    rw [Tr.run_bind, Tr.run_br, d0, cond_false, Tr.run_br, decide_eq_true c1, cond_true, Tr.run_ret, someBind, Tr.run_br]; rfl
  by_cases c2 : ro > 15
  · right
    unfold LQ.rshape LQ.rshape.t
    dsimp only
    rw [Tr.run_bind, Tr.run_br, d0, cond_false, Tr.run_br, decide_eq_false c1, cond_false, Tr.run_br, decide_eq_true c2, cond_true, Tr.run_ret, someBind, Tr.run_br]; rfl
  obtain ⟨ro', rfl⟩ : ∃ ro' : Nat, ro = (ro' : Int) := ⟨ro.toNat, by omega⟩
  obtain ⟨m', rfl⟩ : ∃ m' : Nat, m = (m' : Int) := ⟨m.toNat, by omega⟩
  by_cases c3 : block / 2 ^ ro' * 2 ^ ro' = block ∧ order ≤ block / 2 ^ ro'
  · exact .inl ⟨m', ro', rfl, rfl, by omega, by omega, c3.1, c3.2, rshape_eq m' ro' block order ps es (by omega) (by omega) hb ho c3.1 c3.2⟩
  · right
    unfold LQ.rshape LQ.rshape.t
    dsimp only
    rw [Tr.run_bind]
    refine (bindT (a := (false, (m' : Int), (ro' : Int), ps, es)) (by
      rw [Tr.run_br, d0, cond_false, Tr.run_br, decide_eq_false c1, cond_false, Tr.run_br, decide_eq_false c2, cond_false, Tr.run_br, d3, cond_false, Tr.run_br, d4, cond_false, Tr.run_br, d5, cond_false, Tr.run_ret, d6])).trans ?_
    dsimp only
    have e1 : (block : Int) / ((2 ^ ro' : Nat) : Int) * ((2 ^ ro' : Nat) : Int) = ((block / 2 ^ ro' * 2 ^ ro' : Nat) : Int) := rfl
    have e2 : (block : Int) / ((2 ^ ro' : Nat) : Int) = ((block / 2 ^ ro' : Nat) : Int) := rfl
    have hle : block / 2 ^ ro' * 2 ^ ro' ≤ block := Nat.div_mul_le_self _ _
    rw [Tr.run_br, cond_false, Tr.run_need _ (by omega), Tr.run_bind, Tr.run_need _ (by omega), Tr.run_br, p2_nat _ _ (by omega), e1, e2]
    generalize block / 2 ^ ro' * 2 ^ ro' = u at *
    generalize block / 2 ^ ro' = v at *
    rw [w64_id (by omega)]
    by_cases c4 : u = block
    · rw [show ((u : Int) == (block : Int)) = true from beq_iff_eq.2 (by omega), cond_true, Tr.run_ret, someBind, decide_eq_false (by omega)]; rfl
    · rw [show ((u : Int) == (block : Int)) = false from beq_eq_false_iff_ne.2 (by omega), cond_false, Tr.run_ret, someBind]; rfl
theorem rCheck_dec (m ro : Int) (block order : Nat) (ps es : List Int) (hm : inR m) (hb : 1 ≤ block ∧ block ≤ 65535) (ho : order ≤ 32) :
    (∃ m' ro' : Nat, m = (m' : Int) ∧ ro = (ro' : Int) ∧ RcOK m' ro' ps es block order ∧ LQ.rCheck (m, ro, ps, es, ()) (block : Int) (order : Int) = some 0) ∨ LQ.rCheck (m, ro, ps, es, ()) (block : Int) (order : Int) = some 60 := by
  rcases rshape_dec m ro block order ps es hm hb ho with ⟨m', ro', rfl, rfl, hm', hro, dv, ge, hs⟩ | hs
  rotate_left
  · right
    unfold LQ.rCheck LQ.rCheck.t
    dsimp only
    rw [Tr.run_bind, Tr.run_bind, hs, someBind, Tr.run_br]; rfl
  have hN : 2 ^ ro' ≤ 2 ^ 15 := Nat.pow_le_pow_right (by decide) hro
  have wN : w64 ((1 : Int) * p2 (ro' : Int) 64) = ((2 ^ ro' : Nat) : Int) := by
    rw [p2_nat _ _ (by omega)]
    generalize 2 ^ ro' = N at *
    rw [w64_id (by omega)]; omega
  by_cases c1 : ps.length = 2 ^ ro'
  rotate_left
  · right
    unfold LQ.rCheck LQ.rCheck.t
    dsimp only
    rw [Tr.run_bind, Tr.run_bind, hs, someBind, Bool.not_true, Tr.run_br, cond_false, Tr.run_need _ (by omega), wN, Tr.run_br, show (Int.ofNat ps.length != ((2 ^ ro' : Nat) : Int)) = true from bne_iff_ne.2 (by simp only [Int.ofNat_eq_natCast]; omega), cond_true]; rfl
  by_cases c2 : es.length = 2 ^ ro'
  rotate_left
  · right
    unfold LQ.rCheck LQ.rCheck.t
    dsimp only
    rw [Tr.run_bind, Tr.run_bind, hs, someBind, Bool.not_true, Tr.run_br, cond_false, Tr.run_need _ (by omega), wN, Tr.run_br, c1, show (Int.ofNat (2 ^ ro') != ((2 ^ ro' : Nat) : Int)) = false from bne_self_eq_false _, cond_false, Tr.run_need _ (by omega), Tr.run_ret, show (Int.ofNat es.length != ((2 ^ ro' : Nat) : Int)) = true from bne_iff_ne.2 (by simp only [Int.ofNat_eq_natCast]; omega)]; rfl
  have hmost : ∃ mo : Int, mo = ((2 ^ (4 + m') - 1 : Nat) : Int) - 1 ∧ (Tr.br ((m' : Int) == (1 : Int)) (Tr.ret ((30 : Int), (m' : Int), (ro' : Int), ps, es)) (Tr.ret ((14 : Int), (m' : Int), (ro' : Int), ps, es))).run = some (mo, (m' : Int), (ro' : Int), ps, es) := by
    rcases hm' with rfl | rfl
    · exact ⟨14, by decide, rfl⟩
    · exact ⟨30, by decide, rfl⟩
  obtain ⟨mo, hmo, hmr⟩ := hmost
  have key := loopO_ex (f := fun (d : Int × Int × Int × List Int × List Int) ↦ (LQ.rCheck.l0 (mo, (m' : Int), (ro' : Int), ps, es) d.fst d.snd.fst d.snd.snd.fst d.snd.snd.snd.fst d.snd.snd.snd.snd).run)
    (fun i => 0 ≤ ps.getD i 0 ∧ ps.getD i 0 < ((2 ^ (4 + m') - 1 : Nat) : Int) ∧ -1 ≤ es.getD i 0 ∧ es.getD i 0 ≤ 31 ∧ (0 ≤ es.getD i 0 → ps.getD i 0 = 0)) (.inl (60 : Int)) (.inr ()) (2 ^ ro') (fun i => ((i : Int), (m' : Int), (ro' : Int), ps, es)) (fun i hi => by
      have st : (LQ.rCheck.l0 (mo, (m' : Int), (ro' : Int), ps, es) (i : Int) (m' : Int) (ro' : Int) ps es).run
        = ((bif decide (ps.getD i 0 < 0) then some true else bif decide (ps.getD i 0 > mo) then some true else bif decide (es.getD i 0 < -1) then some true else bif decide (es.getD i 0 > 31) then some true else bif decide (es.getD i 0 ≥ 0) then some (ps.getD i 0 != 0) else some false).bind fun b => bif b then some (.inr (.inl (60 : Int))) else some (.inl (((i + 1 : Nat) : Int), (m' : Int), (ro' : Int), ps, es))) := by
        unfold LQ.rCheck.l0
        dsimp only
        rw [Tr.run_br, decide_eq_true (by simp only [Int.ofNat_eq_natCast]; omega), cond_true, Tr.run_need _ (by simp only [Int.ofNat_eq_natCast]; omega), Tr.run_need _ (by simp only [Int.ofNat_eq_natCast]; omega), Tr.run_bind, Int.toNat_natCast, w64_id (by omega)]
        simp only [Tr.run_br, Tr.run_ret]
        cases decide (ps.getD i 0 < 0) <;> cases decide (ps.getD i 0 > mo) <;> cases decide (es.getD i 0 < -1) <;> cases decide (es.getD i 0 > 31) <;> cases decide (es.getD i 0 ≥ 0) <;> rfl
      dsimp only
      rw [st]
      by_cases a1 : ps.getD i 0 < 0
      · right; rw [decide_eq_true a1]; rfl
      by_cases a2 : ps.getD i 0 > mo
      · right; rw [decide_eq_false a1, decide_eq_true a2]; rfl
      by_cases a3 : es.getD i 0 < -1
      · right; rw [decide_eq_false a1, decide_eq_false a2, decide_eq_true a3]; rfl
      by_cases a4 : es.getD i 0 > 31
      · right; rw [decide_eq_false a1, decide_eq_false a2, decide_eq_false a3, decide_eq_true a4]; rfl
      by_cases a5 : es.getD i 0 ≥ 0
      · by_cases a6 : ps.getD i 0 = 0
        · left
          refine ⟨⟨by omega, by omega, by omega, by omega, fun _ => a6⟩, ?_⟩
          rw [decide_eq_false a1, decide_eq_false a2, decide_eq_false a3, decide_eq_false a4, decide_eq_true a5, a6]; rfl
        · right; rw [decide_eq_false a1, decide_eq_false a2, decide_eq_false a3, decide_eq_false a4, decide_eq_true a5]
          simp only [cond_true, cond_false, Option.bind_some]
          rw [bne_iff_ne.2 a6]; rfl
      · left
        refine ⟨⟨by omega, by omega, by omega, by omega, fun h => absurd h a5⟩, ?_⟩
        rw [decide_eq_false a1, decide_eq_false a2, decide_eq_false a3, decide_eq_false a4, decide_eq_false a5]; rfl) (by
      unfold LQ.rCheck.l0
      dsimp only
      rw [Tr.run_br, decide_eq_false (by simp only [Int.ofNat_eq_natCast]; omega), cond_false, Tr.run_ret])
  have pre : ∀ r, loopO (fun (d : Int × Int × Int × List Int × List Int) ↦ (LQ.rCheck.l0 (mo, (m' : Int), (ro' : Int), ps, es) d.fst d.snd.fst d.snd.snd.fst d.snd.snd.snd.fst d.snd.snd.snd.snd).run) ((0 : Int), (m' : Int), (ro' : Int), ps, es) = some r → LQ.rCheck ((m' : Int), (ro' : Int), ps, es, ()) (block : Int) (order : Int) = (Tr.cs Int PUnit r (0 : Int) () (fun (r5 : Int) ↦ Tr.ret r5) fun (r6 : PUnit) ↦ Tr.ret (0 : Int)).run := fun r hr => by
    unfold LQ.rCheck LQ.rCheck.t
    dsimp only
    rw [Tr.run_bind]
    refine (bindT (a := (false, (m' : Int), (ro' : Int), ps, es)) (by
      rw [Tr.run_bind, hs, someBind, Bool.not_true, Tr.run_br, cond_false, Tr.run_need _ (by omega), wN, Tr.run_br, c1, show (Int.ofNat (2 ^ ro') != ((2 ^ ro' : Nat) : Int)) = false from bne_self_eq_false _, cond_false, Tr.run_need _ (by omega), Tr.run_ret, c2, show (Int.ofNat (2 ^ ro') != ((2 ^ ro' : Nat) : Int)) = false from bne_self_eq_false _])).trans ?_
    dsimp only
    rw [Tr.run_br, cond_false, Tr.run_bind]
    refine (bindT hmr).trans ?_
    dsimp only
    rw [Tr.run_bind]
    exact bindT hr
  rcases key with ⟨k1, k2⟩ | k1
  · exact .inl ⟨m', ro', rfl, rfl, ⟨hm', hro, hb.1, hb.2, ho, dv, ge, c1, c2, k2⟩, pre _ k1⟩
  · exact .inr (pre _ k1)
end Go.Proofs.Ytfblaicifdgfiaa.Dg
end

section
set_option linter.unusedVariables false
set_option linter.unusedSimpArgs false
set_option maxRecDepth 10000
namespace Go.Proofs.Ytfblaicifdgfiaa.Dg
open Go.LM
theorem rcut_eq (l : List Int) (m : Int) (ro : Nat) (ps es : List Int) (block o i : Nat) (hro : ro ≤ 15) (hb : block ≤ 65535) (ho : o ≤ block / 2 ^ ro) (dv : block / 2 ^ ro * 2 ^ ro = block) (hl : l.length = block - o) (hi : i < 2 ^ ro) :
    LQ.rcut l (m, (ro : Int), ps, es, ()) (block : Int) (o : Int) (i : Int) = some (cutN l o (block / 2 ^ ro) i) := by
  have hdiv : ((block : Int) / ((2 ^ ro : Nat) : Int)) = ((block / 2 ^ ro : Nat) : Int) := rfl
  have hob : o ≤ block := Nat.le_trans ho (Nat.div_le_self _ _)
  unfold LQ.rcut LQ.rcut.t
  dsimp only
  rw [Tr.run_need _ (by omega), p2_nat _ _ (by omega), hdiv]
  have hmul : (i + 1) * (block / 2 ^ ro) ≤ block := by
    refine Nat.le_trans (Nat.mul_le_mul_right _ hi) ?_
    rw [Nat.mul_comm, dv]; exact Nat.le_refl _
  have hin : i * (block / 2 ^ ro) + block / 2 ^ ro = (i + 1) * (block / 2 ^ ro) := by rw [Nat.add_mul, Nat.one_mul]
  generalize block / 2 ^ ro = n at *
  have e1 : (i : Int) * (n : Int) = ((i * n : Nat) : Int) := rfl
  have e2 : ((i : Int) + 1) * (n : Int) = (((i + 1) * n : Nat) : Int) := rfl
  have hi2 : (i : Int) < 65536 := by
    have : 2 ^ ro ≤ 2 ^ 15 := Nat.pow_le_pow_right (by decide) hro
    omega
  rw [w64_id (x := (i : Int) + 1) (by omega), e1, e2]
  generalize hA : i * n = A at *
  generalize hB : (i + 1) * n = B at *
  rw [w64_id (x := ((A : Nat) : Int)) (by omega), w64_id (x := ((B : Nat) : Int)) (by omega), w64_id (x := ((A : Nat) : Int) - (o : Int)) (by omega), w64_id (x := ((B : Nat) : Int) - (o : Int)) (by omega)]
  have e3 : (if ((A : Nat) : Int) - (o : Int) > 0 then ((A : Nat) : Int) - (o : Int) else 0) = ((A - o : Nat) : Int) := by split <;> omega
  have e4 : ((B : Nat) : Int) - (o : Int) = ((B - o : Nat) : Int) := by omega
  rw [e3, e4, Tr.run_need _ (by simp only [Int.ofNat_eq_natCast]; omega), Tr.run_ret]
  unfold cutN
  rw [hA, hB]
  have e5 : (((B - o : Nat) : Int) - ((A - o : Nat) : Int)).toNat = B - o - (A - o) := by omega
  first
    | rw [e5, Int.toNat_natCast]
    | rw [Int.toNat_natCast]
def ItOK (k e n : Int) : Prop := inR n ∧ (e < 0 → zz n / 2 ^ k.toNat ≤ 16777216) ∧ (0 < e → fitsW e.toNat n) ∧ (e = 0 → n = 0)
theorem rmay_dec (l : List Int) (k e : Int) (hk : 0 ≤ k ∧ k ≤ 30) (he : -1 ≤ e ∧ e ≤ 31) (hl : l.length ≤ 65535) (hr : ∀ n ∈ l, inR n) : ((∀ n ∈ l, ItOK k e n) ∧ LQ.rmay l k e = some true) ∨ ((¬ ∀ n ∈ l, ItOK k e n) ∧ LQ.rmay l k e = some false) := by
  obtain ⟨k', rfl⟩ : ∃ k' : Nat, k = (k' : Int) := ⟨k.toNat, by omega⟩
  let B : Nat → List Bool := fun i => if 0 < e then sgBits e.toNat (l.take i) else []
  have hBl : ∀ i, (B i).length ≤ 65535 * 31 := fun i => by
    show (if 0 < e then sgBits e.toNat (l.take i) else []).length ≤ _
    split
    · rw [sgBits_len]
      exact Nat.mul_le_mul (by rw [List.length_take]; omega) (by omega)
    · exact Nat.zero_le _
  have key := loopO_ex2 (f := fun (d : Int × Int × List UInt8) ↦ (LQ.rmay.l0 l (k' : Int) e d.fst d.snd.fst d.snd.snd).run) (fun i => ItOK (k' : Int) e (l.getD i 0)) (.inl false) (.inr ()) l.length (fun i => ((i : Int), ((B i).length : Int), pk (B i))) (fun i hi => by
    have hn : inR (l.getD i 0) := hr _ (by rw [getD_lt _ _ hi]; exact List.getElem_mem hi)
    have st : (LQ.rmay.l0 l (k' : Int) e (i : Int) ((B i).length : Int) (pk (B i))).run = ((Tr.br (decide (e < (0 : Int))) (Tr.need ((0 : Int) ≤ (k' : Int)) (Tr.bind (Int × Int × List UInt8) (Tr.br (decide (Go.IntKind.u64.wrap (bitsI Go.BinOp.xor Go.IntKind.u64 (Go.IntKind.u64.wrap (Go.IntKind.u64.wrap (l.getD i (0 : Int)) * (2 : Int))) (Go.IntKind.u64.wrap (l.getD i (0 : Int) / (9223372036854775808 : Int)))) / p2 (k' : Int) (64 : Nat) > (16777216 : Int))) (Tr.ret ((11 : Int), ((B i).length : Int), (pk (B i)))) (Tr.ret ((0 : Int), ((B i).length : Int), (pk (B i))))).run ((0 : Int), (0 : Int), []) fun (r1 : Int × Int × List UInt8) ↦ Tr.ret (r1.fst, r1.snd.fst, r1.snd.snd))) (Tr.bind (Int × Int × List UInt8) (Tr.br (decide (e > (0 : Int))) (Tr.bind (Int × Int × List UInt8) (LQ.sig1 (l.getD i (0 : Int), e) ((B i).length : Int) (pk (B i))) ((0 : Int), (0 : Int), []) fun (r2 : Int × Int × List UInt8) ↦ Tr.ret (r2.fst, r2.snd.fst, r2.snd.snd)) (Tr.bind (Int × Int × List UInt8) (Tr.br (l.getD i (0 : Int) != (0 : Int)) (Tr.ret ((11 : Int), ((B i).length : Int), (pk (B i)))) (Tr.ret ((0 : Int), ((B i).length : Int), (pk (B i))))).run ((0 : Int), (0 : Int), []) fun (r3 : Int × Int × List UInt8) ↦ Tr.ret (r3.fst, r3.snd.fst, r3.snd.snd))).run ((0 : Int), (0 : Int), []) fun (r4 : Int × Int × List UInt8) ↦ Tr.ret (r4.fst, r4.snd.fst, r4.snd.snd))).run).bind fun r => (Tr.br (r.fst != (0 : Int)) (Tr.ret (Sum.inr (Sum.inl false))) (Tr.ret (Sum.inl (((i + 1 : Nat) : Int), r.snd.fst, r.snd.snd)))).run := by
      unfold LQ.rmay.l0
      rw [Tr.run_br, decide_eq_true (p := (i : Int) < Int.ofNat l.length) (by simp only [Int.ofNat_eq_natCast]; omega), cond_true, Tr.run_need _ (by simp only [Int.ofNat_eq_natCast]; omega), Tr.run_bind, Int.toNat_natCast, w64_id (x := (i : Int) + 1) (by omega)]
      rfl
    dsimp only
    rw [st]
    by_cases hneg : e < 0
    · have hB0 : ∀ j, B j = [] := fun j => if_neg (by omega)
      have e1 : ((zz (l.getD i 0) : Nat) : Int) / ((2 ^ k' : Nat) : Int) = ((zz (l.getD i 0) / 2 ^ k' : Nat) : Int) := rfl
      rw [decide_eq_true (p := e < 0) hneg, Tr.run_br, cond_true, Tr.run_need _ (by omega), Tr.run_bind, zz_fold _ hn, p2_nat _ _ (by omega), e1, hB0 i, hB0 (i + 1)]
      by_cases hz : zz (l.getD i 0) / 2 ^ k' ≤ 16777216
      · left
        refine ⟨⟨hn, fun _ => by rw [Int.toNat_natCast]; exact hz, fun h => by omega, fun h => by omega⟩, ?_⟩
        rw [decide_eq_false (by generalize zz (l.getD i 0) / 2 ^ k' = q at hz; omega)]; rfl
      · right
        refine ⟨fun hx => hz (by have := hx.2.1 hneg; rw [Int.toNat_natCast] at this; exact this), ?_⟩
        rw [decide_eq_true (by generalize zz (l.getD i 0) / 2 ^ k' = q at hz; omega)]; rfl
    · by_cases hpos : 0 < e
      · have hBi : ∀ j, B j = sgBits e.toNat (l.take j) := fun j => if_pos hpos
        obtain ⟨e', rfl⟩ : ∃ e' : Nat, e = (e' : Int) := ⟨e.toNat, by omega⟩
        rw [decide_eq_false (p := ((e' : Nat) : Int) < 0) hneg, Tr.run_br, cond_false, Tr.run_bind, decide_eq_true (p := ((e' : Nat) : Int) > 0) hpos]
        rcases bfits_dec (l.getD i 0) e' (by omega) (by omega) hn with ⟨hf, _⟩ | ⟨hnf, hf⟩
        · left
          refine ⟨⟨hn, fun h => by omega, fun _ => by rw [Int.toNat_natCast]; exact hf, fun h => by omega⟩, ?_⟩
          have hs := sig1_eq (B i) (l.getD i 0) e' (by omega) (by omega) hf (by have := hBl i; omega)
          have hnx : B (i + 1) = B i ++ bitsOf (two64 (l.getD i 0)) e' := by
            rw [hBi, hBi, Int.toNat_natCast, List.take_succ_eq_append_getElem hi, getD_lt _ _ hi]
            unfold sgBits two64
            rw [List.flatMap_append]; simp
          rw [Tr.run_br, cond_true, Tr.run_bind, hs, hnx, List.length_append, bitsOf_len]; rfl
        · right
          refine ⟨fun hx => hnf (by have := hx.2.2.1 hpos; rw [Int.toNat_natCast] at this; exact this), ?_⟩
          rw [Tr.run_br, cond_true, Tr.run_bind, sig1_no _ _ _ _ hf]; rfl
      · have hB0 : ∀ j, B j = [] := fun j => if_neg hpos
        rw [decide_eq_false (p := e < 0) hneg, Tr.run_br, cond_false, Tr.run_bind, decide_eq_false (p := e > 0) hpos, Tr.run_br, cond_false, Tr.run_bind, hB0 i, hB0 (i + 1)]
        by_cases h0 : l.getD i 0 = 0
        · left
          refine ⟨⟨hn, fun h => by omega, fun h => by omega, fun _ => h0⟩, ?_⟩
          rw [h0]; rfl
        · right
          refine ⟨fun hx => h0 (hx.2.2.2 (by omega)), ?_⟩
          rw [bne_iff_ne.2 h0]; rfl) (by
    unfold LQ.rmay.l0
    dsimp only
    rw [Tr.run_br, decide_eq_false (by simp only [Int.ofNat_eq_natCast]; omega), cond_false, Tr.run_ret])
  have hB00 : B 0 = [] := by
    show (if 0 < e then sgBits e.toNat (l.take 0) else []) = []
    split <;> rfl
  have pre : ∀ r, loopO (fun (d : Int × Int × List UInt8) ↦ (LQ.rmay.l0 l (k' : Int) e d.fst d.snd.fst d.snd.snd).run) (((0 : Nat) : Int), ((B 0).length : Int), pk (B 0)) = some r → LQ.rmay l (k' : Int) e = (Tr.cs Bool PUnit r false () (fun (r7 : Bool) ↦ Tr.ret r7) fun (r8 : PUnit) ↦ Tr.ret true).run := fun r hr => by
    rw [hB00] at hr
    unfold LQ.rmay LQ.rmay.t
    rw [Tr.run_bind]
    refine (bindT (a := ((0 : Int), ([] : List UInt8))) rfl).trans ?_
    rw [Tr.run_bind]
    exact bindT hr
  rcases key with ⟨k1, k2⟩ | ⟨k1, k2⟩
  · refine .inl ⟨fun n hn => ?_, pre _ k1⟩
    obtain ⟨i, hi, rfl⟩ := List.getElem_of_mem hn
    have := k2 i hi
    rw [getD_lt _ _ hi] at this
    exact this
  · refine .inr ⟨fun hall => k2 fun i hi => hall _ (by rw [getD_lt _ _ hi]; exact List.getElem_mem hi), pre _ k1⟩
end Go.Proofs.Ytfblaicifdgfiaa.Dg
end

