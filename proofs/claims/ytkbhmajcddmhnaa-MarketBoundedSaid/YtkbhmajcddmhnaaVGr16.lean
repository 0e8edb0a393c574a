/- goes: what it hands back. -/
import Derived.Test.YtkbhmajcddmhnaaVTruM
import Derived.Laws.CopyOwn
import Derived.Test.YtkbhmajcddmhnaaVGr15
namespace Go.Proofs.Ytkbhmajcddmhnaa
open Go.RowKit
set_option linter.unusedVariables false
set_option linter.unusedSimpArgs false

def GoesPost (r : Option TS) (w : World) (e : Ending) (w' : World) : Prop :=
  match r with
  | none => ∃ v : Array Value, e = .returned (.tuple #[.agg v, .bool false]) ∧ v.size = 21 ∧ v.all (·.oneCell') = true ∧ Ext w w'
  | some t => ∃ ra rc, e = .returned (.tuple #[.agg (truCells t (.slice ra t.roads.length rc)).toArray, .bool true]) ∧ Ext w w' ∧ SlAt w' 5 ra t.roads.length (fun k => (roadRows t.roads).getD k [])
def z20 : List Int := [0, 0, 0, 0, 0]
def zTru : TS := ⟨z20, z20, z20, z20, []⟩
theorem info66 : (Try.prog.info? 66).map (·.size) = some 21 := by kernel_rfl
theorem tru_size {t : TS} (h : L5 t) (rv : Value) : (truCells t rv).toArray.size = 21 := by
  simp [truCells, iv_len, h.held, h.given, h.got, h.lost]
theorem tru_one {t : TS} {a : Option Addr} {n c : Nat} : (truCells t (.slice a n c)).toArray.all (·.oneCell') = true := by
  rw [← Array.all_toList, List.all_eq_true]
  intro x hx
  simp only [truCells, iv, List.mem_append, List.mem_map, List.mem_singleton] at hx
  rcases hx with ⟨_, _, rfl⟩ | ⟨_, _, rfl⟩ | ⟨_, _, rfl⟩ | ⟨_, _, rfl⟩ | rfl <;> rfl
theorem zTru5 : L5 zTru := ⟨rfl, rfl, rfl, rfl⟩
/-- all is copied into the block that is handed back -/
theorem results35 (tmps : Array Value) (w : World) (g : Nat) (b : Bool) {t : TS} {rv : Value} (hp : tmps.getD 10 undef = .pointer (some ⟨g, 0, none⟩)) (hb : tmps.getD 11 undef = .bool b) (hg : TrAt w g t rv) (hl : L5 t) : (results Try.f35 tmps).run Try.prog w = .ok (.tuple #[.agg (truCells t rv).toArray, .bool b]) w := by
  have hp' : tmps[10]?.getD undef = .pointer (some ⟨g, 0, none⟩) := by simpa using hp
  have hb' : tmps[11]?.getD undef = .bool b := by simpa using hb
  have h66 := run_loadVar_row (P := Try.prog) w g 66 66 (truCells t rv).toArray (0, 0) _ hg Try.underlying66 rfl (by rw [info66, tru_size hl])
  simp [results, Try.results35, hp', hb', asAddr, h66, Sem.run_bind]
set_option maxRecDepth 100000 in
set_option maxHeartbeats 4000000 in
theorem goesEnd {w w7 : World} {t : TS} {tb rb base : Nat} {rv : Value}
    (hT : TrAt w7 tb t rv) (hl : L5 t) (how : Owns w7 base 63 5 rv (roadRows t.roads)) (hrb : TrAt w7 rb zTru (.slice none 0 0)) (hne : rb < tb) (htb : tb < base) (hw : w.heap.size ≤ rb) (hx : Ext w w7)
    {u0 u1 u2 u3 u4 u5 u6 u7 u8 u9 u11 u13 u14 u15 u16 u17 u18 u19 u20 u21 u22 u23 u24 u25 u26 u27 u28 u29 u30 u31 u32 u33 u34 u35 u36 u37 u38 u39 u40 u41 u42 u43 u44 u45 u46 u47 u48 u49 u50 u51 u52 u53 u54 u55 u56 u57 u58 u59 u60 u61 u62 u63 u64 u65 u66 u67 u68 u69 u70 u71 u72 u73 u74 u75 u76 u77 u78 u79 u80 u81 u82 u83 u84 u85 u86 u87 u88 u89 u90 u91 u92 u93 u94 u95 u96 u97 u98 u99 u100 u101 u102 u103 u104 u105 u106 u107 u108 u109 u110 u111 u112 u113 u114 u115 u116 u117 u118 u119 u120 u121 u122 u123 u124 u125 u126 u127 u128 u129 u130 u131 u132 u133 u134 u135 u136 u137 u138 u139 u140 u141 u142 u143 u144 u145 u146 u147 u148 u149 u150 u151 u152 u153 u154 u155 u156 u157 u158 u159 u160 u161 u162 u163 u164 u165 u166 u167 u168 u169 u170 u171 u172 u173 u174 u175 u176 u177 u178 u179 u180 u181 u182 u183 u184 u185 u186 u187 u188 u189 u190 u191 u192 u193 u194 u195 u196 u197 u198 u199 u200 u201 u202 u203 u204 u205 : Value} :
    (restFrom Try.f35 25).wp Try.prog (bodyPost Try.prog Try.f35 (GoesPost (some t) w))
      ⟨#[u0, u1, u2, u3, u4, u5, u6, u7, u8, u9, .pointer (some ⟨rb, 0, none⟩), u11, .pointer (some ⟨tb, 0, none⟩), u13, u14, u15, u16, u17, u18, u19, u20, u21, u22, u23, u24, u25, u26, u27, u28, u29, u30, u31, u32, u33, u34, u35, u36, u37, u38, u39, u40, u41, u42, u43, u44, u45, u46, u47, u48, u49, u50, u51, u52, u53, u54, u55, u56, u57, u58, u59, u60, u61, u62, u63, u64, u65, u66, u67, u68, u69, u70, u71, u72, u73, u74, u75, u76, u77, u78, u79, u80, u81, u82, u83, u84, u85, u86, u87, u88, u89, u90, u91, u92, u93, u94, u95, u96, u97, u98, u99, u100, u101, u102, u103, u104, u105, u106, u107, u108, u109, u110, u111, u112, u113, u114, u115, u116, u117, u118, u119, u120, u121, u122, u123, u124, u125, u126, u127, u128, u129, u130, u131, u132, u133, u134, u135, u136, u137, u138, u139, u140, u141, u142, u143, u144, u145, u146, u147, u148, u149, u150, u151, u152, u153, u154, u155, u156, u157, u158, u159, u160, u161, u162, u163, u164, u165, u166, u167, u168, u169, u170, u171, u172, u173, u174, u175, u176, u177, u178, u179, u180, u181, u182, u183, u184, u185, u186, u187, u188, u189, u190, u191, u192, u193, u194, u195, u196, u197, u198, u199, u200, u201, u202, u203, u204, u205], []⟩ w7 := by
  obtain ⟨ra, rc, hrv, _, _, _, hsl⟩ := how.slAt
  rw [show (roadRows t.roads).length = t.roads.length by rw [roadRows, List.length_map]] at hrv hsl
  subst hrv
  obtain ⟨N, hN⟩ : ∃ N, t.roads.length = N := ⟨_, rfl⟩
  rw [hN] at hT how hsl
  have hsz : (Try.prog.info? 66).map (·.size) = some (truCells t (.slice ra N rc)).toArray.size := by rw [info66, tru_size hl]
  have hold : (truCells zTru (.slice none 0 0)).toArray.size = (truCells t (.slice ra N rc)).toArray.size := by rw [tru_size hl, tru_size zTru5]
  have hone : (truCells t (.slice ra N rc)).toArray.all (·.oneCell') = true := tru_one
  have hset : TrAt (w7.setRow rb (truCells t (.slice ra N rc)).toArray) rb t (.slice ra N rc) := setRow_heap w7 rb _ _ 66 (0, 0) hrb
  have hx8 : Ext w (w7.setRow rb (truCells t (.slice ra N rc)).toArray) := below_setRow hx hw _
  have hsl8 : SlAt (w7.setRow rb (truCells t (.slice ra N rc)).toArray) 5 ra N (fun k => (roadRows t.roads).getD k []) := hsl.same fun x hx => setRow_other _ _ _ _ (by
    have := how.lt x.block (by rw [hx]; rfl)
    omega)
  have HT := Lib.hid hT
  have Hrb := Lib.hid hrb
  have How := Lib.hid how
  have Hsl := Lib.hid hsl
  have Hx := Lib.hid hx
  have Hl := Lib.hid hl
  have HN := Lib.hid hN
  have Hsz := Lib.hid hsz
  have Hold := Lib.hid hold
  have Hone := Lib.hid hone
  have Hset := Lib.hid hset
  have Hx8 := Lib.hid hx8
  have Hsl8 := Lib.hid hsl8
  clear hT hrb how hsl hx hl hN hsz hold hone hset hx8 hsl8
  conv => arg 2; whnf
  go_wp2_with (first | (refine wpList_load_row rfl 66 (.tmp 12) rfl tb rfl 66 (truCells t (.slice ra N rc)).toArray (0, 0) _ HT.out Try.underlying66 rfl Hsz.out ?_) | (refine wpList_store_row rfl 66 (.tmp 10) (.tmp 205) rfl rb (truCells t (.slice ra N rc)).toArray rfl rfl 66 _ Hrb.out Hsz.out Hold.out Hone.out ?_))
  refine bodyPost_ret (results35 _ _ rb true rfl rfl Hset.out Hl.out) rfl ?_
  refine ⟨ra, rc, ?_, Hx8.out, ?_⟩
  · rw [HN.out]
  · rw [HN.out]; exact Hsl8.out
end Go.Proofs.Ytkbhmajcddmhnaa

/- goes: the roads behind the last barter. -/
namespace Go.Proofs.Ytkbhmajcddmhnaa
open Go.RowKit
set_option linter.unusedVariables false
set_option linter.unusedSimpArgs false

/-- goes' state -/
structure GSt (w : World) (rb tb base : Nat) (t : TS) (rv : Value) (wr : World) : Prop where
  tru : TrAt wr tb t rv
  own : Owns wr base 63 5 rv (roadRows t.roads)
  ret : TrAt wr rb zTru (.slice none 0 0)
  ext : Ext w wr
  ord : w.heap.size ≤ rb ∧ rb < tb ∧ tb < base ∧ base ≤ wr.heap.size
theorem GSt.rv {w : World} {rb tb base : Nat} {t : TS} {rv : Value} {wr : World} (h : GSt w rb tb base t rv wr) : ∃ a c, rv = .slice a t.roads.length c := by
  obtain ⟨a, c, e, _⟩ := h.own.slAt
  exact ⟨a, c, by rw [e, roadRows, List.length_map]⟩
theorem GSt.later {w : World} {rb tb base : Nat} {t : TS} {rv : Value} {wr wr' : World} (h : GSt w rb tb base t rv wr) (e : Ext wr wr') : GSt w rb tb base t rv wr' :=
  ⟨h.tru.ext e, h.own.ext e, h.ret.ext e, h.ext.trans e, h.ord.1, h.ord.2.1, h.ord.2.2.1, Nat.le_trans h.ord.2.2.2 e.size⟩
theorem GSt.road {w : World} {rb tb base : Nat} {t t' : TS} {rv : Value} {wr : World} {e : Ending} {w' : World} (h : GSt w rb tb base t rv wr) (p : TruRoad tb base t' rv wr e w') :
    ∃ u rv', e = .returned u ∧ GSt w rb tb base t' rv' w' ∧ Only2 tb rv.ownBlock wr w' ∧ ∀ k, rv'.ownBlock = some k → rv.ownBlock = some k ∨ wr.heap.size ≤ k := by
  obtain ⟨u, rv', he, ho, htr, hown, hob⟩ := p
  obtain ⟨o1, o2, o3, o4⟩ := h.ord
  have hrv := fun x (e : rv.ownBlock = some x) => h.own.lt x e
  refine ⟨u, rv', he, ⟨htr, hown, h.ret.same (ho.block rb h.ret.lt (by omega) (fun e => by have := hrv rb e; omega)), h.ext.only2 ho (by omega) (fun x e => by have := hrv x e; omega), o1, o2, o3, Nat.le_trans o4 ho.size⟩, ho, hob⟩
def roadsLen (tb : Nat) (w : World) : Nat := match w.cell? ⟨tb, 20, none⟩ with | some (.slice _ n _) => n | _ => 0
theorem GSt.len {w : World} {rb tb base : Nat} {t : TS} {rv : Value} {wr : World} (h : GSt w rb tb base t rv wr) (hl : L5 t) : roadsLen tb wr = t.roads.length := by
  obtain ⟨a, c, e⟩ := h.rv
  unfold roadsLen
  rw [h.tru.cR hl, e]
theorem SpansAt.block {w : World} {a : Option Addr} {n : Nat} {l : List Span} (h : SpansAt w a n l) (hn : 0 < n) {x : Addr} (hx : a = some x) : x.block < w.heap.size := by
  obtain ⟨b, o, y, e, _, hb, _⟩ := h.get 0 hn
  rw [hx] at e
  cases e
  exact hb

set_option maxRecDepth 100000 in
set_option maxHeartbeats 4000000 in
theorem goesTail {w w7 : World} {t : TS} {i r tb rb base : Nat} {rv : Value} {fa : Option Addr} {fn fc : Nat} {fs : List Fair} {ca : Option Addr} {cn cc : Nat} {by_ : List Int}
    (hg : GSt w rb tb base t rv w7) (hok : t.Ok i r) (hr : r < fs.length) (hf : FairsAt w fa fn fs) (ht : tripOk fs = true) (hb : IntsAt .u32 w ca cn by_) (hu : u32s by_) (hcn : cn ≤ 9223372036854775807) {R : Option TS} (hR : R = some (t.to by_ fs (fs.length - 1)))
    {u0 u2 u3 u5 u6 u7 u8 u9 u11 u13 u14 u15 u16 u17 u18 u19 u20 u21 u22 u23 u24 u25 u26 u27 u28 u29 u30 u31 u32 u33 u34 u35 u36 u37 u38 u39 u40 u41 u42 u43 u44 u45 u46 u47 u48 u49 u50 u51 u52 u53 u54 u55 u56 u57 u58 u59 u60 u61 u62 u63 u64 u65 u66 u67 u68 u69 u70 u71 u72 u73 u74 u75 u76 u77 u78 u79 u80 u81 u82 u83 u84 u85 u86 u87 u88 u89 u90 u91 u92 u93 u94 u95 u96 u97 u98 u99 u100 u101 u102 u103 u104 u105 u106 u107 u108 u109 u110 u111 u112 u113 u114 u115 u116 u117 u118 u119 u120 u121 u122 u123 u124 u125 u126 u127 u128 u129 u130 u131 u132 u133 u134 u135 u136 u137 u138 u139 u140 u141 u142 u143 u144 u145 u146 u147 u148 u149 u150 u151 u152 u153 u154 u155 u156 u157 u158 u159 u160 u161 u162 u163 u164 u165 u166 u167 u168 u169 u170 u171 u172 u173 u174 u175 u176 u177 u178 u179 u180 u181 u182 u183 u184 u185 u186 u187 u188 u189 u190 u191 u192 u193 u194 u195 u196 u197 u198 u199 u200 u201 u202 u203 u204 u205 : Value} :
    (restLoop Try.f35 23).wp Try.prog (bodyPost Try.prog Try.f35 (GoesPost R w))
      ⟨#[u0, .slice fa fn fc, u2, u3, .slice ca cn cc, u5, u6, u7, u8, u9, .pointer (some ⟨rb, 0, none⟩), u11, .pointer (some ⟨tb, 0, none⟩), u13, u14, u15, u16, u17, u18, u19, u20, u21, u22, u23, u24, u25, u26, u27, u28, u29, u30, u31, u32, u33, u34, u35, u36, u37, u38, u39, u40, u41, u42, u43, u44, u45, u46, u47, u48, u49, u50, u51, u52, u53, u54, u55, u56, u57, u58, u59, u60, u61, u62, u63, u64, u65, u66, u67, u68, u69, u70, u71, u72, u73, u74, u75, u76, u77, u78, u79, u80, u81, u82, u83, u84, u85, u86, u87, u88, u89, u90, u91, u92, u93, u94, u95, u96, u97, u98, u99, u100, u101, u102, u103, u104, u105, u106, u107, u108, u109, u110, u111, u112, u113, u114, u115, u116, u117, u118, u119, u120, u121, u122, u123, u124, u125, u126, u127, u128, u129, u130, u131, u132, u133, u134, u135, u136, u137, u138, u139, u140, u141, u142, u143, u144, u145, u146, u147, u148, u149, u150, u151, u152, u153, u154, u155, u156, u157, u158, u159, u160, u161, u162, u163, u164, u165, u166, u167, u168, u169, u170, u171, u172, u173, u174, u175, u176, u177, u178, u179, u180, u181, u182, u183, u184, u185, u186, u187, u188, u189, u190, u191, u192, u193, u194, u195, u196, u197, u198, u199, u200, u201, u202, u203, u204, u205], []⟩ w7 := by
  subst hR
  have hfl := hf.1
  have htl := trip_len ht
  have hrd := fun (k : Nat) (rv : Value) (T : TS) wr (hk : k < fs.length) (hst : GSt w rb tb base T rv wr) (hT : T.Ok i k) (f : Fair) (hfk : fs[k]? = some f) (ka : Option Addr) (kc : Nat) (hsp : SpansAt w ka 5 f.keeps) =>
    truRoad_any tb base i k T rv f.place f.day ka kc f.keeps ca cn cc by_ wr hst.tru hT (by omega) (by have := keeps_ok ht hk; simp only [keepsOf, List.getD, hfk, Option.getD_some] at this; exact this) (hsp.ext hst.ext) (fun x hx => by have := hsp.block (by omega) hx; have := hst.ord; omega) (hb.ext hst.ext) hu hcn (fun h x hx => by have := hb.block h hx; have := hst.ord; omega) hst.own hst.ord.2.2.1 hst.ord.2.2.2
  have hfn1 : 1 ≤ fn := by omega
  have hfn5 : fn ≤ 5 := by omega
  have Hg := Lib.hid hg
  have Hok := Lib.hid hok
  have Hf := Lib.hid hf
  have Ht := Lib.hid ht
  have Hb := Lib.hid hb
  have Hrd := Lib.hid hrd
  have Hfl := Lib.hid hfl
  clear hg hok hf ht hb hrd hfl
  conv => arg 2; whnf
  go_wp2_with fail
  go_loopw [190] (fun v wr => ∃ (k : Nat) (rv : Value), r + k + 1 ≤ fs.length ∧ GSt w rb tb base (t.go by_ fs k) rv wr ∧ (t.go by_ fs k).Ok i (r + k)) (fun v wr => fs.length - roadsLen tb wr)
  case atStart => exact ⟨0, rv, by omega, Hg.out, Hok.out⟩
  case round =>
    obtain ⟨k, rv, hk, hst, hT⟩ := hrel
    obtain ⟨ra, rc, hrv⟩ := hst.rv
    have hlen := hst.len hT.l5
    rw [hT.roads.1] at hrv hlen
    subst hrv
    have cR := hst.tru.cR hT.l5
    obtain ⟨m, hm⟩ : ∃ m, r + k = m := ⟨_, rfl⟩
    rw [hm] at hst hT hlen cR
    by_cases hlt : m + 1 < fs.length
    · have hltB : decide ((m : Int) < (fn : Int) - 1) = true := by have := Hfl.out; simp; omega
      obtain ⟨fb, fo, f, ka, kn, kc, rfl, hfk, hfb, d0, d1, d2, _, _, d3⟩ := Hf.out.get m (by have := Hfl.out; omega)
      obtain rfl : kn = 5 := by rw [← d3.1]; exact (fair_bounds Ht.out hfk).1
      have d0 := hst.ext.cell d0
      have d1 := hst.ext.cell d1
      have d2 := hst.ext.cell d2
      have hcall := Hrd.out m _ _ wr (by omega) hst hT f hfk ka kc d3
      have hks : keepsOf fs m = f.keeps := by simp [keepsOf, List.getD, hfk]
      have hgo : t.go by_ fs (k + 1) = (t.go by_ fs k).road by_ f.keeps := by
        simp only [TS.go]
        rw [Hok.out.roads.1, hm, hks]
      have hT1 := hT.road (by_ := by_) (ks := f.keeps) (by have := keeps_ok Ht.out (show m < fs.length by omega); rw [hks] at this; exact this)
      have hmn : (m : Int) < fn := by have := Hfl.out; omega
      have Hst := Lib.hid hst
      have Hcall := Lib.hid hcall
      have Hgo := Lib.hid hgo
      have HT1 := Lib.hid hT1
      have Hlen := Lib.hid hlen
      have Hm := Lib.hid hm
      clear hst hcall hgo hT1 hlen hm
      clear hfk d3 hks hT
      go_wp2_with (go_at_call 66; refine Hcall.out.mono ?_; rintro e w8 hp; obtain ⟨u, rv', rfl, hst8, _⟩ := Hst.out.road hp)
      go_roundw
      case rel => exact ⟨k + 1, rv', by have := Hm.out; omega, by rw [Hgo.out]; exact hst8, by rw [Hgo.out, show r + (k + 1) = m + 1 by have := Hm.out; omega]; exact HT1.out⟩
      case measure =>
        rw [hst8.len HT1.out.l5, Hlen.out, HT1.out.roads.1]
        omega
    · have hltB : decide ((m : Int) < (fn : Int) - 1) = false := by have := Hfl.out; simp; omega
      have hto : t.to by_ fs (fs.length - 1) = t.go by_ fs k := by
        unfold TS.to
        rw [Hok.out.roads.1]
        congr 1
        omega
      rw [← hto] at hst hT
      have Hst := Lib.hid hst
      have HT := Lib.hid hT
      have Hlen := Lib.hid hlen
      have Hm := Lib.hid hm
      clear hst hT hlen hm
      clear hto
      go_upto_if 196 with fail
      iterate 6 go_step
      exact goesEnd Hst.out.tru HT.out.l5 Hst.out.own Hst.out.ret Hst.out.ord.2.1 Hst.out.ord.2.2.1 Hst.out.ord.1 Hst.out.ext
end Go.Proofs.Ytkbhmajcddmhnaa
