/- Layer 3, in plain words: lands, the days of a leg, when one leaves and arrives, the stops of a way, what water a well has. No function of the program is named here. -/
import Derived.Test.YtcoelhpmkhimpaaGreatDoorCam
namespace Go.Proofs.YtcoelhpmkhimpaaGreatDoor
set_option linter.unusedVariables false

structure Well where
  x : Int
  y : Int
  depth : Int
  yield : Span
  room : Int
  has : Span
  owner : Int
  deriving DecidableEq
structure Gate where
  opens : Span
  shuts : Span
  deriving DecidableEq
structure Leg where
  frm : Int
  to : Int
  long : Span
  gates : List Gate
structure Land where
  wells : List Well
  legs : List Leg
structure Stop where
  leg : Int
  well : Int
  leaves : Span
  arrives : Span
  deriving DecidableEq
structure Draw where
  well : Int
  day : Int
  water : Int
  deriving DecidableEq
def zw : Well := ⟨0, 0, 0, ⟨0, 0⟩, 0, ⟨0, 0⟩, 0⟩
def zg : Gate := ⟨⟨0, 0⟩, ⟨0, 0⟩⟩
def zleg : Leg := ⟨0, 0, ⟨0, 0⟩, []⟩
def wellOk (w : Well) : Bool := (inB w.x (-10000000) 10000000 && inB w.y (-10000000) 10000000) && inB w.depth 0 200 && spanOk w.yield 0 10000000 && inB w.room 0 1000000000 && spanOk w.has 0 w.room && inB w.owner 0 9999
def gatesOk : Int → List Gate → Bool
  | _, [] => true
  | k, g :: l => (spanOk g.opens 0 100000 && spanOk g.shuts 0 100000) && inB g.opens.lo k g.shuts.hi && gatesOk (g.shuts.hi + 1) l
def legOk (n : Nat) (x : Leg) : Bool := (inB x.frm 0 (n - 1) && inB x.to 0 (n - 1)) && x.frm != x.to && spanOk x.long 1 1000000 && decide (x.gates.length ≤ 6) && gatesOk 0 x.gates
def landOk (l : Land) : Bool := decide (1 ≤ l.wells.length) && decide (l.wells.length ≤ 12) && decide (l.legs.length ≤ 24) && l.wells.all wellOk && l.legs.all (legOk l.wells.length)
def paceOk (p : Span) : Bool := spanOk p 1 100000
/-- the days of a leg -/
def legDays (x : Leg) (p : Span) : Span := ⟨upq x.long.lo p.hi, upq x.long.hi p.lo⟩
/-- the first day on which one leaves, by gates of which opens and shuts tell the days -/
def leaveBy (opens shuts : Gate → Int) (n at' : Int) : List Gate → Int → Int
  | [], out => out
  | g :: l, out => leaveBy opens shuts n at' l (if max at' (opens g) + n - 1 ≤ shuts g then min (min out (max at' (opens g))) 100001 else out)
def mayLeave (x : Leg) (n at' : Int) : Int := leaveBy (fun g => g.opens.lo) (fun g => g.shuts.hi) n at' x.gates 100001
def canLeave (x : Leg) (n at' : Int) : Int := leaveBy (fun g => g.opens.hi) (fun g => g.shuts.lo) n at' x.gates 100001
def leaveOf (x : Leg) (p at' : Span) : Span := ⟨mayLeave x (legDays x p).lo at'.lo, canLeave x (legDays x p).hi at'.hi⟩
def arriveOf (x : Leg) (p at' : Span) : Span := ⟨min ((leaveOf x p at').lo + (legDays x p).lo) 100001, min ((leaveOf x p at').hi + (legDays x p).hi) 100001⟩
/-- the other end of a leg, -1 if it has none at a well -/
def endOf (l : Land) (leg well : Int) : Int :=
  if 0 ≤ leg ∧ leg < l.legs.length then
    (if well = (l.legs.getD leg.toNat zleg).frm then (l.legs.getD leg.toNat zleg).to else if well = (l.legs.getD leg.toNat zleg).to then (l.legs.getD leg.toNat zleg).frm else -1) else -1
/-- the wells of a way, or where it breaks off -/
def endsOf (l : Land) : Int → List Int → Except Nat (List Int)
  | _, [] => .ok []
  | w, g :: gs => if endOf l g w < 0 then .error 0 else match endsOf l (endOf l g w) gs with
    | .error k => .error (k + 1)
    | .ok es => .ok (endOf l g w :: es)
def legAt (l : Land) (g : Int) : Leg := l.legs.getD g.toNat zleg
def stopsOf (l : Land) (p : Span) : Span → List Int → List Int → Except Nat (List Stop)
  | at', g :: gs, e :: es => if 100000 < (arriveOf (legAt l g) p at').hi then .error 0 else
      match stopsOf l p (arriveOf (legAt l g) p at') gs es with
      | .error k => .error (k + 1)
      | .ok ss => .ok (⟨g, e, leaveOf (legAt l g) p at', arriveOf (legAt l g) p at'⟩ :: ss)
  | _, _, _ => .ok []

structure LegOk (n : Nat) (x : Leg) : Prop where
  frm : 0 ≤ x.frm ∧ x.frm < n
  to : 0 ≤ x.to ∧ x.to < n
  ne : x.frm ≠ x.to
  long : SpanIs x.long 1 1000000
  few : x.gates.length ≤ 6
  gates : gatesOk 0 x.gates = true
theorem legIs {n : Nat} {x : Leg} (h : legOk n x = true) : LegOk n x := by
  simp only [legOk, Bool.and_eq_true, bne_iff_ne, decide_eq_true_eq] at h
  obtain ⟨⟨⟨⟨⟨h1, h2⟩, h3⟩, h4⟩, h5⟩, h6⟩ := h
  have := inB_is h1
  have := inB_is h2
  exact ⟨by omega, by omega, h3, spanIs h4, h5, h6⟩
theorem gates_mem : ∀ {k : Int} {l : List Gate}, gatesOk k l = true → ∀ g ∈ l, SpanIs g.opens 0 100000 ∧ SpanIs g.shuts 0 100000
  | k, [], h, g, hg => by cases hg
  | k, x :: l, h, g, hg => by
    simp only [gatesOk, Bool.and_eq_true] at h
    rcases List.mem_cons.1 hg with rfl | hg
    · exact ⟨spanIs h.1.1.1, spanIs h.1.1.2⟩
    · exact gates_mem h.2 g hg
theorem days_is {n : Nat} {x : Leg} {p : Span} (hx : LegOk n x) (hp : SpanIs p 1 100000) : 1 ≤ (legDays x p).lo ∧ (legDays x p).lo ≤ (legDays x p).hi ∧ (legDays x p).hi ≤ 1000000 := by
  have h1 := hx.long
  have := h1.low
  have := h1.ord
  have := h1.top
  have := hp.low
  have := hp.ord
  unfold legDays
  simp only
  have e1 := upq_mul (a := x.long.lo) (d := p.hi) (by omega)
  have e2 := upq_mul (a := x.long.hi) (d := p.lo) (by omega)
  generalize upq x.long.lo p.hi = A at *
  generalize upq x.long.hi p.lo = B at *
  have hA : 1 ≤ A := by
    rcases Int.lt_or_le 0 A with h | h
    · omega
    · have := Int.mul_le_mul_of_nonneg_right h (show 0 ≤ p.hi by omega)
      omega
  have hB : 0 ≤ B := by
    rcases Int.lt_or_le B 0 with h | h
    · have := Int.mul_le_mul_of_nonneg_right (show B ≤ 0 by omega) (show 0 ≤ p.lo by omega)
      omega
    · exact h
  refine ⟨hA, ?_, ?_⟩
  · rcases Int.lt_or_le B A with h | h
    · -- (A - 1) * p.hi < long.lo ≤ long.hi ≤ B * p.lo ≤ B * p.hi ≤ (A - 1) * p.hi
      have f1 := Int.mul_le_mul_of_nonneg_left (show p.lo ≤ p.hi by omega) hB
      have f2 := Int.mul_le_mul_of_nonneg_right (show B ≤ A - 1 by omega) (show 0 ≤ p.hi by omega)
      rw [Int.sub_mul] at f2
      omega
    · exact h
  · rcases Int.lt_or_le 1000000 B with h | h
    · have f1 := Int.mul_le_mul_of_nonneg_right (show 1000000 ≤ B - 1 by omega) (show 0 ≤ p.lo by omega)
      rw [Int.sub_mul] at f1
      have f2 := Int.mul_le_mul_of_nonneg_left (show 1 ≤ p.lo by omega) (show (0 : Int) ≤ 1000000 by omega)
      omega
    · exact h
theorem leaveBy_le (opens shuts : Gate → Int) (n a : Int) : ∀ (l : List Gate) (out : Int), leaveBy opens shuts n a l out ≤ out
  | [], out => Int.le_refl _
  | g :: l, out => by
    unfold leaveBy
    refine Int.le_trans (leaveBy_le opens shuts n a l _) ?_
    split <;> omega
theorem leaveBy_ge (opens shuts : Gate → Int) (n a : Int) : ∀ (l : List Gate) (out : Int), a ≤ 100001 → a ≤ out → a ≤ leaveBy opens shuts n a l out
  | [], out, _, h => h
  | g :: l, out, h0, h => by
    unfold leaveBy
    refine leaveBy_ge opens shuts n a l _ h0 ?_
    split <;> omega
/-- who may leave does so no later than who can -/
theorem leaveBy_mono {n m a b : Int} (hn : n ≤ m) (ha : a ≤ b) : ∀ (l : List Gate) (o u : Int), (∀ g ∈ l, g.opens.lo ≤ g.opens.hi ∧ g.shuts.lo ≤ g.shuts.hi) → o ≤ u →
    leaveBy (fun g => g.opens.lo) (fun g => g.shuts.hi) n a l o ≤ leaveBy (fun g => g.opens.hi) (fun g => g.shuts.lo) m b l u
  | [], o, u, _, h => h
  | g :: l, o, u, hl, h => by
    unfold leaveBy
    refine leaveBy_mono hn ha l _ _ (fun k hk => hl k (List.mem_cons_of_mem _ hk)) ?_
    have := hl g (List.mem_cons_self ..)
    split <;> split <;> omega
/-- on a stop's days -/
structure StopOk (l : Land) (p : Span) (s : Stop) : Prop where
  leg : 0 ≤ s.leg ∧ s.leg < l.legs.length
  well : 0 ≤ s.well ∧ s.well < l.wells.length
  low : s.arrives.lo - s.leaves.lo = (legDays (legAt l s.leg) p).lo
  high : s.arrives.hi - s.leaves.hi = (legDays (legAt l s.leg) p).hi
  zero : 0 ≤ s.arrives.lo
  ord : s.arrives.lo ≤ s.arrives.hi
  top : s.arrives.hi ≤ 100000
theorem arrive_is {n : Nat} {x : Leg} {p a : Span} (hx : LegOk n x) (hp : SpanIs p 1 100000) (ha : SpanIs a 0 100000) (h : ¬100000 < (arriveOf x p a).hi) :
    (arriveOf x p a).lo - (leaveOf x p a).lo = (legDays x p).lo ∧ (arriveOf x p a).hi - (leaveOf x p a).hi = (legDays x p).hi ∧ SpanIs (arriveOf x p a) 0 100000 := by
  have hd := days_is hx hp
  have := ha.low
  have := ha.ord
  have := ha.top
  have hm : (leaveOf x p a).lo ≤ (leaveOf x p a).hi := leaveBy_mono hd.2.1 ha.ord x.gates 100001 100001 (fun g hg => ⟨(gates_mem hx.gates g hg).1.ord, (gates_mem hx.gates g hg).2.ord⟩) (Int.le_refl _)
  have h0 : a.lo ≤ (leaveOf x p a).lo := leaveBy_ge _ _ _ _ _ _ (by omega) (by omega)
  have e1 : (arriveOf x p a).lo = min ((leaveOf x p a).lo + (legDays x p).lo) 100001 := rfl
  have e2 : (arriveOf x p a).hi = min ((leaveOf x p a).hi + (legDays x p).hi) 100001 := rfl
  rw [e2] at h
  refine ⟨by rw [e1]; omega, by rw [e2]; omega, ⟨by rw [e1]; omega, by rw [e1, e2]; omega, by rw [e2]; omega⟩⟩
theorem end_is {l : Land} (hl : l.legs.all (legOk l.wells.length) = true) {g w : Int} (h : ¬endOf l g w < 0) : (0 ≤ g ∧ g < l.legs.length) ∧ LegOk l.wells.length (legAt l g) ∧ 0 ≤ endOf l g w ∧ endOf l g w < l.wells.length := by
  unfold endOf at h ⊢
  by_cases h1 : 0 ≤ g ∧ g < l.legs.length
  · rw [if_pos h1] at h ⊢
    have hx : LegOk l.wells.length (legAt l g) := by
      refine legIs (List.all_eq_true.1 hl _ ?_)
      unfold legAt
      rw [List.getD_eq_getElem?_getD, List.getElem?_eq_getElem (show g.toNat < l.legs.length by omega)]
      exact List.getElem_mem _
    refine ⟨h1, hx, ?_⟩
    have f := hx.frm
    have t := hx.to
    unfold legAt at f t
    split
    · exact t
    · split
      · exact f
      · rename_i q1 q2
        rw [if_neg q1, if_neg q2] at h
        omega
  · rw [if_neg h1] at h
    omega
theorem stops_are {l : Land} {p : Span} (hl : l.legs.all (legOk l.wells.length) = true) (hp : SpanIs p 1 100000) : ∀ (gs : List Int) (w : Int) (a : Span) (es : List Int) (ss : List Stop), SpanIs a 0 100000 → endsOf l w gs = .ok es → stopsOf l p a gs es = .ok ss →
    ss.length = gs.length ∧ ∀ s ∈ ss, StopOk l p s
  | [], w, a, es, ss, ha, he, hs => by
    cases he
    cases hs
    exact ⟨rfl, by simp⟩
  | g :: gs, w, a, es, ss, ha, he, hs => by
    unfold endsOf at he
    split at he
    · cases he
    · rename_i hw
      obtain ⟨hg, hx, hE⟩ := end_is hl hw
      split at he
      · cases he
      · rename_i es' he'
        cases he
        unfold stopsOf at hs
        split at hs
        · cases hs
        · rename_i hA
          have hr := arrive_is hx hp ha hA
          split at hs
          · cases hs
          · rename_i ss' hs'
            cases hs
            obtain ⟨h1, h2⟩ := stops_are hl hp gs _ _ es' ss' hr.2.2 he' hs'
            refine ⟨by simp [h1], ?_⟩
            intro s hs
            rcases List.mem_cons.1 hs with rfl | hs
            · exact ⟨hg, hE, hr.1, hr.2.1, hr.2.2.low, hr.2.2.ord, hr.2.2.top⟩
            · exact h2 s hs
end Go.Proofs.YtcoelhpmkhimpaaGreatDoor
