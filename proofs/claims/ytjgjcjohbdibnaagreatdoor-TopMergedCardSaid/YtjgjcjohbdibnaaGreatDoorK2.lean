/- Rules of a verification-condition layer over the library: frames, a ghost heap of blocks that no longer change, owned blocks, regions run in every order; rules for each operation; part 2. They hold of every program; no further condition. -/
import Derived.Test.YtjgjcjohbdibnaaGreatDoorK1
import Derived.ChangeKeysEq
import Derived.Lib.BytesEntry
import Derived.Lib.Bytealg
import Derived.Laws.Tables
import Derived.Lib.ConvBytes
import Derived.Laws.RangeString
import Derived.Laws.RangeAny
import Derived.Shelf.SlSortCmp.NoneTotal
set_option linter.all false
namespace Go.Brd.D7
open Go Go.Brd
def orderOk (ops : Array Oper) (M : List Nat) (σ : List Nat) : Bool :=
 Nat.beq σ.length ops.size && σ.all (fun i => Nat.blt i ops.size) && (List.range ops.size).all (fun i => σ.contains i) && D5.pairsOk2 ops M σ
def allOk (N : Nat) (ops : Array Oper) (σ0 : List Nat) (σs : List (List Nat)) : Bool :=
 ops.toList.all (dstOk N) && masksOk (masksGo ops.toList []) 0 ops.toList && orderOk ops (masksGo ops.toList []) σ0 && (exts (masksGo ops.toList []) ops.size σ0).all (fun e => σs.contains e)
section
variable {P : Program} {c : World} {N : Nat} {ops : Array Oper} {s : Fr} {h : GH} {L : Own} {Q : Post}
theorem lin_all {M : List Nat} (hm : masksOk M 0 ops.toList = true) : ∀ (fuel t : Nat) (σ : List Nat) (listed : Array Bool), σ.length = fuel → D5.Go ops M σ listed →
 Region.linearise.go .any ops fuel t listed [] ∈ exts M fuel σ
 | 0, t, σ, listed, hf, g => by
  have hσ : σ = [] := List.length_eq_zero_iff.1 hf;subst hσ;simp [Region.linearise.go, exts]
 | fuel + 1, t, σ, listed, hf, g => by
  obtain ⟨i, hi, t', e⟩ := D5.lin_step (t := t) hm g hf;obtain ⟨o, A, B, ho, rfl, hmask, g'⟩ := g.pick hm hi;rw [e];have hlen : (A ++ B).length = fuel := by simp at hf ⊢; omega
  have ih := lin_all hm fuel t' (A ++ B) _ hlen g';have hnd := D5.pairsOk2_nodup g.pairs
  have hnA : i ∉ A := fun h => by
   have := (List.nodup_cons.1 ((List.perm_middle (a := i) (l₁ := A) (l₂ := B)).nodup_iff.1 hnd)).1;exact this (by simp [h])
  have h3 : (A ++ i :: B).erase i = A ++ B := by rw [List.erase_append_right _ hnA, List.erase_cons_head]
  unfold exts;refine List.mem_flatMap.2 ⟨i, by simp, ?_⟩
  have hall : (A ++ i :: B).all (fun x => !Nat.testBit (M.getD i 0) x) = true := List.all_eq_true.2 fun x hx => by
   rw [hmask x hx]; rfl
  rw [hall, h3];exact List.mem_map.2 ⟨_, ih, rfl⟩
structure DoSq (P : Program) (c : World) (ops : Array Oper) (σ : List Nat) (s : Fr) (h : GH) (L : Own) (Q : Post) : Prop where
 run : ∀ (N : Nat) (a : Act) (w : World) (R : Exit → Act → World → Prop), ops.toList.all (dstOk N) = true → Agrees N s a → St c h L w →
  (∀ a' w' s' h' L', Agrees N s' a' → GH.le h h' → St c h' L' w' → Q s' h' L' → R .normal a' w') → wpOps P ops R σ a w
theorem DoSq.done {s' : Fr} (hs : Fr.Sub s' s) (hq : Q s' h L) : DoSq P c ops [] s h L Q :=
 ⟨fun _ a w _ _ ha st hR => hR a w s' h L (ha.sub hs) (GH.le_refl h) st hq⟩
theorem DoSq.step {i : Nat} {σ : List Nat} {dst : Option Tmp} {op : Op} {type : TypeId} {pos : String} {after : Array Edge} (ho : ops[i]? = some { dst := dst, op := op, type := type, pos := pos, after := after, guard := none })
 (hd : vcOp P c s h L L type (fun v h' L' => DoSq P c ops σ (updF s dst v) h' L' Q) op) : DoSq P c ops (i :: σ) s h L Q :=
 ⟨fun N a w R hall ha st hR => by
  have hdo : dstOk N ({ dst := dst, op := op, type := type, pos := pos, after := after, guard := none } : Oper) = true := List.all_eq_true.1 hall _ (by rw [Array.mem_toList_iff]; exact Array.mem_of_getElem? ho);show wpOp P ops R i (wpOps P ops R σ) a w;unfold wpOp;rw [ho];simp only;rw [if_pos (by simp [Region.wanted])];exact .inl (vcOp_sound ha st (fun _ e => e) hd fun v w' h' L' hle hs' hk => hk.run N _ w' R hall (ha.upd hdo) hs' fun a' w'' s' h'' L'' h1 h2 h3 h4 => hR a' w'' s' h'' L'' h1 (GH.le_trans hle h2) h3 h4)⟩
theorem all (hmix : P.follows .mixedOrders = true) (σ0 : List Nat) (σs : List (List Nat)) (hok : allOk N ops σ0 σs = true) (hv : ∀ σ ∈ σs, DoSq P c ops σ s h L Q) : DoDraw P c N ops s h L Q := by
 simp only [allOk, Bool.and_eq_true] at hok;obtain ⟨⟨⟨hall, hm⟩, hord⟩, hcov⟩ := hok;refine ⟨fun a w t R ha hs hR => ?_⟩;simp only [Region.schedule, hmix, Bool.true_or, if_true];simp only [orderOk, Bool.and_eq_true] at hord;obtain ⟨⟨⟨hlen, hlt⟩, hc⟩, hp⟩ := hord;have hlen' := Nat.eq_of_beq_eq_true hlen
 have g : D5.Go ops (masksGo ops.toList []) σ0 (Array.replicate ops.size false) := by
  refine ⟨hp, by simp, ?_, fun i hi => Nat.blt_eq.mp (List.all_eq_true.1 hlt i hi), ?_⟩
  · intro i hi
    have : σ0.contains i = true := List.all_eq_true.1 hc i (by simpa using hi);simp only [Array.getD, Array.size_replicate, hi, dite_true]
    simpa using this
  · intro j o ho hj
    have hjn := (Array.getElem?_eq_some_iff.1 ho).1;simp [Array.getD, hjn] at hj
 have hex := lin_all hm ops.size t σ0 _ hlen' g;have h1 := List.all_eq_true.1 hcov _ hex;have h2 : Region.linearise .any ops t ∈ σs := by simpa [Region.linearise] using h1
 exact (hv _ h2).run N a w R hall ha hs hR
end
end Go.Brd.D7
namespace Go.Brd
abbrev ID := List UInt8
structure Val where
 kind : Nat
 num : Int
 bits : Nat
 text : ByteArray
 deriving DecidableEq
structure Act where
 kind : Nat
 key : ByteArray
 val : Val
 deriving DecidableEq
structure Op where
 author : Nat
 preds : List ID
 stamp : Nat
 act : Act
 e : Nat
 s : Nat
 deriving DecidableEq
structure Graph where
 ids : List ID
 ops : List Op
 deriving DecidableEq
def u8V (b : UInt8) : Value := .int .u8 (b.toNat : Nat)
def idC (x : ID) : List Value := x.map u8V
def idV (x : ID) : Value := .agg (idC x).toArray
def bC (b : Bool) : List Value := [.bool b]
def u8C (b : UInt8) : List Value := [u8V b]
def i64C (n : Int) : List Value := [.int .i64 n]
def natC (n : Nat) : List Value := [.int .i64 (n : Int)]
def valC (v : Val) : List Value := [.int .u8 v.kind, .int .i64 v.num, .int .u64 v.bits, .string v.text]
def actC (a : Act) : List Value := .int .u8 a.kind :: .string a.key :: valC a.val
def opC (x : Op × Value) : List Value := .int .u32 x.1.author :: x.2 :: .int .u64 x.1.stamp :: .int .u8 x.1.act.kind :: .string x.1.act.key :: .int .u8 x.1.act.val.kind :: .int .i64 x.1.act.val.num :: .int .u64 x.1.act.val.bits :: .string x.1.act.val.text :: .int .u32 x.1.e :: [.int .u32 x.1.s]
structure ValWF (v : Val) : Prop where
 kind : v.kind < 256
 num : -9223372036854775808 ≤ v.num ∧ v.num ≤ 9223372036854775807
 bits : v.bits < 18446744073709551616
 text : v.text.size ≤ 9223372036854775807
structure ActWF (a : Act) : Prop where
 kind : a.kind < 256
 key : a.key.size ≤ 9223372036854775807
 val : ValWF a.val
structure OpWF (o : Op) : Prop where
 author : o.author < 4294967296
 stamp : o.stamp < 18446744073709551616
 act : ActWF o.act
 e : o.e < 4294967296
 s : o.s < 4294967296
abbrev RIds (h : GH) (v : Value) (l : List ID) : Prop := Sl h v 32 (l.map idC)
structure ROp (h : GH) (x : Op × Value) : Prop where
 preds : RIds h x.2 x.1.preds
 wf : OpWF x.1
theorem ROp.mono {h h' : GH} {x : Op × Value} (hle : GH.le h h') (r : ROp h x) : ROp h' x := ⟨r.preds.mono hle, r.wf⟩
structure ROps (h : GH) (v : Value) (xs : List (Op × Value)) : Prop where
 sl : Sl h v 11 (xs.map opC)
 each : ∀ x ∈ xs, ROp h x
theorem ROps.mono {h h' : GH} {v : Value} {xs : List (Op × Value)} (hle : GH.le h h') (r : ROps h v xs) : ROps h' v xs := ⟨r.sl.mono hle, fun x hx => (r.each x hx).mono hle⟩
structure RGraph (h : GH) (iv ov : Value) (g : Graph) : Prop where
 ids : RIds h iv g.ids
 ops : ∃ xs, ROps h ov xs ∧ xs.map Prod.fst = g.ops
theorem RGraph.mono {h h' : GH} {iv ov : Value} {g : Graph} (hle : GH.le h h') (r : RGraph h iv ov g) : RGraph h' iv ov g := ⟨r.ids.mono hle, let ⟨xs, h1, h2⟩ := r.ops; ⟨xs, h1.mono hle, h2⟩⟩
theorem idC_one (x : ID) : (idC x).all oneCell = true := by
 unfold idC; rw [List.all_eq_true]; intro v hv; obtain ⟨b, _, rfl⟩ := List.mem_map.1 hv; rfl
theorem idC_length (x : ID) : (idC x).length = x.length := by simp [idC]
theorem opC_one (x : Op × Value) (h : oneCell x.2 = true) : (opC x).all oneCell = true := by
 unfold opC; simp only [List.all_cons, h, List.all_nil]; rfl
theorem Sl.one {h : GH} {v : Value} {sz : Nat} {ls : List (List Value)} (s : Sl h v sz ls) : oneCell v = true := by
 obtain ⟨a, cap, rfl, _⟩ := s.is; rfl
theorem idC_inj {x y : ID} (h : idC x = idC y) : x = y := by
 unfold idC at h;refine List.map_inj_right (fun a b e => ?_) |>.1 h;simp only [u8V, Value.int.injEq, true_and] at e;have : a.toNat = b.toNat := by omega
 exact UInt8.toNat_inj.1 this
def ltB : List UInt8 → List UInt8 → Bool
 | _, [] => false
 | [], _ :: _ => true
 | a :: x, b :: y => a < b || (a == b && ltB x y)
def cmpB (x y : List UInt8) : Int := if ltB x y then -1 else if ltB y x then 1 else 0
end Go.Brd
namespace Go.Brd
inductive CK where
 | i (k : IntKind) | s | b
 deriving DecidableEq
def fits : CK → Value → Bool
 | .i k, .int k' _ => k == k'
 | .s, .string _ => true
 | .b, .bool _ => true
 | _, _ => false
def fitsL : List CK → List Value → Bool
 | [], [] => true
 | k :: ks, v :: vs => fits k v && fitsL ks vs
 | _, _ => false
def cEq : Value → Value → Bool
 | .int _ a, .int _ b => a == b
 | .string a, .string b => a.toList == b.toList
 | .bool a, .bool b => a == b
 | _, _ => false
def csEq : List Value → List Value → Bool
 | [], [] => true
 | a :: x, b :: y => cEq a b && csEq x y
 | _, _ => false
def shpFs (P : Program) (g : TypeId → Option (List CK)) : List Field → Nat → Option (List CK)
 | [], _ => some []
 | f :: fs, off => if f.name = "_" ∨ f.offset ≠ off then none else match g f.type, P.info? f.type with
  | some ks, some i => if i.size = ks.length then (shpFs P g fs (off + ks.length)).map (ks ++ ·) else none
  | _, _ => none
def shp (P : Program) : Nat → TypeId → Option (List CK)
 | 0, _ => none
 | d + 1, t => match P.underlying t with
  | some (.int k) => some [.i k]
  | some .string => some [.s]
  | some .bool => some [.b]
  | some (.array n e) => match shp P d e, P.info? e with
   | some ks, some i => if i.size = ks.length then some (List.replicate n ks).flatten else none
   | _, _ => none
  | some (.struct fs) => if P.stoodInHeld t then none else shpFs P (shp P d) fs.toList 0
  | _ => none
abbrev shpF (P : Program) (d : Nat) : List Field → Nat → Option (List CK) := shpFs P (shp P d)
theorem fitsL_len : ∀ {ks : List CK} {vs : List Value}, fitsL ks vs = true → vs.length = ks.length
 | [], [], _ => rfl
 | k :: ks, v :: vs, h => by simp only [fitsL, Bool.and_eq_true] at h; simp [fitsL_len h.2]
 | [], _ :: _, h => by cases h
 | _ :: _, [], h => by cases h
theorem fitsL_append : ∀ {ks ls : List CK} {vs : List Value}, fitsL (ks ++ ls) vs = true → fitsL ks (vs.take ks.length) = true ∧ fitsL ls (vs.drop ks.length) = true
 | [], _, _, h => ⟨rfl, h⟩
 | k :: ks, ls, v :: vs, h => by
  simp only [List.cons_append, fitsL, Bool.and_eq_true] at h;have := fitsL_append h.2;simp only [List.length_cons, List.take_succ_cons, List.drop_succ_cons, fitsL, Bool.and_eq_true];exact ⟨⟨h.1, this.1⟩, this.2⟩
 | _ :: _, _, [], h => by cases h
theorem csEq_split (n : Nat) : ∀ {x y : List Value}, x.length = y.length → csEq x y = (csEq (x.take n) (y.take n) && csEq (x.drop n) (y.drop n)) := by
 induction n with
 | zero => intro x y _; simp [csEq]
 | succ n ih =>
  intro x y h;cases x with
  | nil => cases y with
   | nil => simp [csEq]
   | cons b y => simp at h
  | cons a x => cases y with
   | nil => simp at h
   | cons b y => simp only [List.take_succ_cons, List.drop_succ_cons, csEq]; rw [ih (by simpa using h), Bool.and_assoc]
def isAggT (P : Program) (t : TypeId) : Bool := match P.underlying t with
 | some (.struct _) | some (.array _ _) => true
 | _ => false
def pack (P : Program) (t : TypeId) (cs : List Value) : Value := if isAggT P t then .agg cs.toArray else cs.headD undef
section
variable {P : Program}
theorem run_isAggT {t : TypeId} {d : TypeDesc} (hu : P.underlying t = some d) (w : World) : (isAgg t).run P w = .ok (isAggT P t) w := by
 unfold isAgg isAggT;rw [Sem.run_bind, run_underlying hu, hu, Result.andThen_ok];cases d <;> rfl
theorem run_part_pack {t : TypeId} {i : TypeInfo} {n off : Nat} {cs : List Value} (hi : P.info? t = some i) (hn : i.size = n) (hn0 : isAggT P t = false → n = 1) (hd : ∃ d, P.underlying t = some d) (hlen : off + n ≤ cs.length) (w : World) :
 (part t cs.toArray off).run P w = .ok (pack P t ((cs.drop off).take n)) w := by
 obtain ⟨d, hd⟩ := hd;unfold part;rw [Sem.run_bind, run_isAggT hd, Result.andThen_ok];unfold pack;cases hb : isAggT P t with
 | true =>
  simp only [if_true];rw [Sem.run_bind, Go.run_sizeOf w hi];have hc : P.cellsOf t = n := by unfold Program.cellsOf; rw [hi]; exact hn
  rw [hc, Result.andThen_ok];show Result.ok _ w = _;congr 2
  apply Array.toList_inj.1;simp [List.take_drop, Nat.add_comm]
 | false =>
  have := hn0 hb;subst this;simp only [Bool.false_eq_true, if_false];have : cs.toArray[off]? = some cs[off] := by simp [show off < cs.length by omega]
  rw [this]
  have h2 : (cs.drop off).take 1 = [cs[off]] := by
   rw [List.drop_eq_getElem_cons (by omega), List.take_succ_cons, List.take_zero]
  rw [h2]; rfl
theorem shp_scalar {d : Nat} {t : TypeId} {ks : List CK} (h : shp P d t = some ks) (hb : isAggT P t = false) : ks.length = 1 := by
 cases d with
 | zero => simp [shp] at h
 | succ d =>
  simp only [shp] at h;unfold isAggT at hb;split at h <;> simp_all
  all_goals (subst h; rfl)
theorem shp_under {d : Nat} {t : TypeId} {ks : List CK} (h : shp P d t = some ks) : ∃ x, P.underlying t = some x := by
 cases d with
 | zero => simp [shp] at h
 | succ d =>
  simp only [shp] at h;cases hu : P.underlying t with
  | none => rw [hu] at h; cases h
  | some x => exact ⟨x, rfl⟩
def EqT (P : Program) (d : Nat) : Prop := ∀ (t : TypeId) (ks : List CK), shp P d t = some ks → ∀ D, d ≤ D → ∀ (cs ds : List Value), fitsL ks cs = true → fitsL ks ds = true → ∀ w, (Op.equalIn D t (pack P t cs) (pack P t ds)).run P w = .ok (csEq cs ds) w
theorem eqItems_ok {d D e : Nat} {ks : List CK} {i : TypeInfo} (ih : EqT P d) (hD : d ≤ D) (hk : shp P d e = some ks) (hi : P.info? e = some i) (hsz : i.size = ks.length) {cs ds : List Value} : ∀ (n k : Nat), cs.length = (k + n) * ks.length → ds.length = (k + n) * ks.length →
 fitsL (List.replicate n ks).flatten (cs.drop (k * ks.length)) = true → fitsL (List.replicate n ks).flatten (ds.drop (k * ks.length)) = true → ∀ w,
 (Op.eqItems D e (P.cellsOf e) cs.toArray ds.toArray (List.range' k n)).run P w = .ok (csEq (cs.drop (k * ks.length)) (ds.drop (k * ks.length))) w := by
 have hc : P.cellsOf e = ks.length := by unfold Program.cellsOf; rw [hi]; exact hsz
 intro n
 induction n with
 | zero =>
  intro k h1 h2 _ _ w;have e1 : cs.drop (k * ks.length) = [] := List.drop_eq_nil_of_le (by rw [h1]; simp);have e2 : ds.drop (k * ks.length) = [] := List.drop_eq_nil_of_le (by rw [h2]; simp);rw [e1, e2]; rfl
 | succ n ihn =>
  intro k h1 h2 f1 f2 w;rw [List.range'_succ];unfold Op.eqItems
  have hle : k * ks.length + ks.length ≤ (k + (n + 1)) * ks.length := by
   have : k * ks.length + ks.length = (k + 1) * ks.length := by rw [Nat.add_mul, Nat.one_mul]
   rw [this]; exact Nat.mul_le_mul_right _ (by omega)
  simp only [List.replicate_succ, List.flatten_cons] at f1 f2;obtain ⟨a1, a2⟩ := fitsL_append f1;obtain ⟨b1, b2⟩ := fitsL_append f2;rw [hc, Sem.run_bind, run_part_pack hi hsz (fun h => shp_scalar hk h) (shp_under hk) (by omega), Result.andThen_ok, Sem.run_bind, run_part_pack hi hsz (fun h => shp_scalar hk h) (shp_under hk) (by omega), Result.andThen_ok, Sem.run_bind, ih e ks hk D hD _ _ a1 b1, Result.andThen_ok];rw [csEq_split ks.length (x := cs.drop (k * ks.length)) (y := ds.drop (k * ks.length)) (by simp [h1, h2])];have ek : ∀ (l : List Value), (l.drop (k * ks.length)).drop ks.length = l.drop ((k + 1) * ks.length) := fun l => by rw [List.drop_drop, Nat.add_mul, Nat.one_mul]
  cases hq : csEq ((cs.drop (k * ks.length)).take ks.length) ((ds.drop (k * ks.length)).take ks.length) with
  | false => simp only [Bool.not_false, if_true, Bool.false_and]; rfl
  | true =>
   simp only [Bool.not_true, Bool.false_eq_true, if_false, Bool.true_and];rw [ek] at a2 b2;have := ihn (k + 1) (by rw [h1]; congr 1; omega) (by rw [h2]; congr 1; omega) a2 b2 w;rw [hc] at this;rw [this, ek, ek]
theorem eqFields_ok {d D : Nat} (ih : EqT P d) (hD : d ≤ D) {cs ds : List Value} : ∀ (fs : List Field) (off : Nat) (ks : List CK), shpF P d fs off = some ks → cs.length = off + ks.length → ds.length = off + ks.length → fitsL ks (cs.drop off) = true → fitsL ks (ds.drop off) = true → ∀ w,
 (Op.eqFields D cs.toArray ds.toArray fs).run P w = .ok (csEq (cs.drop off) (ds.drop off)) w
 | [], off, ks, h, h1, h2, _, _, w => by
  simp only [shpFs, Option.some.injEq] at h;subst h;have e1 : cs.drop off = [] := List.drop_eq_nil_of_le (by simp at h1; omega);have e2 : ds.drop off = [] := List.drop_eq_nil_of_le (by simp at h2; omega);rw [e1, e2]; rfl
 | f :: fs, off, ks, h, h1, h2, f1, f2, w => by
  simp only [shpFs] at h;split at h
  · cases h
  · rename_i hno
    have hnm : f.name ≠ "_" := fun e => hno (.inl e)
    have hoff : f.offset = off := by rcases Nat.decEq f.offset off with e | e; exact (hno (.inr e)).elim; exact e
    split at h
    · rename_i k1 i hk1 hi
      split at h
      · rename_i hsz
        cases hr : shpFs P (shp P d) fs (off + k1.length) with
        | none => rw [hr] at h; cases h
        | some k2 =>
         rw [hr] at h;simp only [Option.map_some, Option.some.injEq] at h;subst h;simp only [List.length_append] at h1 h2;obtain ⟨a1, a2⟩ := fitsL_append f1;obtain ⟨b1, b2⟩ := fitsL_append f2;unfold Op.eqFields;simp only [hnm, ne_eq, not_false_eq_true, if_true, hoff];rw [Sem.run_bind, run_part_pack hi hsz (fun h => shp_scalar hk1 h) (shp_under hk1) (by omega), Result.andThen_ok, Sem.run_bind, run_part_pack hi hsz (fun h => shp_scalar hk1 h) (shp_under hk1) (by omega), Result.andThen_ok, Sem.run_bind, ih f.type k1 hk1 D hD _ _ a1 b1, Result.andThen_ok];rw [csEq_split k1.length (x := cs.drop off) (y := ds.drop off) (by simp [h1, h2])];simp only [List.drop_drop] at a2 b2 ⊢;cases hq : csEq ((cs.drop off).take k1.length) ((ds.drop off).take k1.length) with
         | false => simp only [Bool.not_false, if_true, Bool.false_and]; rfl
         | true =>
          simp only [Bool.not_true, Bool.false_eq_true, if_false, Bool.true_and];exact eqFields_ok ih hD fs (off + k1.length) k2 hr (by omega) (by omega) a2 b2 w
      · cases h
    · cases h
theorem eqT_all : ∀ d, EqT P d := by
 intro d
 induction d with
 | zero => intro t ks h; simp [shp] at h
 | succ d ih =>
  intro t ks h D hD cs ds f1 f2 w;obtain ⟨D, rfl⟩ : ∃ D', D = D' + 1 := ⟨D - 1, by omega⟩;simp only [shp] at h;have hl1 := fitsL_len f1;have hl2 := fitsL_len f2;cases hu : P.underlying t with
  | none => rw [hu] at h; cases h
  | some x =>
   rw [hu] at h;cases x with
   | int k =>
    simp only [Option.some.injEq] at h; subst h;have hp : isAggT P t = false := by unfold isAggT; rw [hu]
    match cs, ds, f1, f2 with
    | [a], [b], f1, f2 =>
     simp only [fitsL, Bool.and_true] at f1 f2;cases a <;> first | (cases f1; done) | skip
     cases b <;> first | (cases f2; done) | skip
     rename_i k1 n1 k2 n2;simp only [fits, beq_iff_eq] at f1 f2;subst f1; subst f2;unfold pack; rw [hp];simp only [Bool.false_eq_true, if_false, List.headD_cons];rw [run_equalIn_int w D t _ _ _ _ hu]; simp [csEq, cEq]
   | string =>
    simp only [Option.some.injEq] at h; subst h;have hp : isAggT P t = false := by unfold isAggT; rw [hu]
    match cs, ds, f1, f2 with
    | [a], [b], f1, f2 =>
     simp only [fitsL, Bool.and_true] at f1 f2;cases a <;> first | (cases f1; done) | skip
     cases b <;> first | (cases f2; done) | skip
     unfold pack; rw [hp];simp only [Bool.false_eq_true, if_false, List.headD_cons];rw [run_equalIn_string w D t _ _ hu]; simp [csEq, cEq]
   | bool =>
    simp only [Option.some.injEq] at h; subst h;have hp : isAggT P t = false := by unfold isAggT; rw [hu]
    match cs, ds, f1, f2 with
    | [a], [b], f1, f2 =>
     simp only [fitsL, Bool.and_true] at f1 f2;cases a <;> first | (cases f1; done) | skip
     cases b <;> first | (cases f2; done) | skip
     unfold pack; rw [hp];simp only [Bool.false_eq_true, if_false, List.headD_cons];rw [run_equalIn_bool' w D t _ _ hu]; simp [csEq, cEq]
   | array n e =>
    have hp : isAggT P t = true := by unfold isAggT; rw [hu]
    simp only at h;cases hk : shp P d e with
    | none => rw [hk] at h; cases h
    | some k1 =>
     cases hi : P.info? e with
     | none => rw [hk, hi] at h; cases h
     | some i =>
      rw [hk, hi] at h;simp only at h;split at h
      · rename_i hsz
        simp only [Option.some.injEq] at h; subst h;unfold pack; rw [hp];simp only [if_true];rw [run_equalIn_array w D cs.toArray ds.toArray hu hi, List.range_eq_range'];have hfl : (List.replicate n k1).flatten.length = n * k1.length := by simp
        have := eqItems_ok ih (show d ≤ D by omega) hk hi hsz (cs := cs) (ds := ds) n 0 (by rw [hl1, hfl]; simp) (by rw [hl2, hfl]; simp) (by simpa using f1) (by simpa using f2) w
        simpa using this
      · cases h
   | struct fs =>
    have hp : isAggT P t = true := by unfold isAggT; rw [hu]
    simp only at h;split at h
    · cases h
    · rename_i hst
      unfold pack; rw [hp];simp only [if_true];have hfo : P.fieldsOf t = fs := by unfold Program.fieldsOf; rw [hu]
      rw [run_equalIn_struct w D t _ _ (by rw [hfo]; exact hu) (by simpa using hst), hfo];have := eqFields_ok ih (show d ≤ D by omega) fs.toList 0 ks h (by simpa using hl1) (by simpa using hl2) (by simpa using f1) (by simpa using f2) w
      simpa using this
   | _ => cases h
end
end Go.Brd
namespace Go.Brd
theorem bytes_beq (a b : ByteArray) : (a.toList == b.toList) = decide (a = b) := by
 rw [ByteArray.toList_eq, ByteArray.toList_eq];obtain ⟨⟨x⟩⟩ := a;obtain ⟨⟨y⟩⟩ := b;simp only [ByteArray.mk.injEq, Array.mk.injEq];by_cases e : x = y
 · subst e; simp
 · simp [e]
theorem csEq_iff : ∀ {ks : List CK} {cs ds : List Value}, fitsL ks cs = true → fitsL ks ds = true → (csEq cs ds = true ↔ cs = ds)
 | [], [], [], _, _ => by simp [csEq]
 | k :: ks, a :: cs, b :: ds, h1, h2 => by
  simp only [fitsL, Bool.and_eq_true] at h1 h2;simp only [csEq, Bool.and_eq_true, csEq_iff h1.2 h2.2, List.cons.injEq]
  have : cEq a b = true ↔ a = b := by
   obtain ⟨f1, -⟩ := h1;obtain ⟨f2, -⟩ := h2;cases k <;> cases a <;> first | (cases f1; done) | skip
   all_goals cases b <;> first | (cases f2; done) | skip
   · have e1 := eq_of_beq f1
     have e2 := eq_of_beq f2;subst e1; subst e2; simp [cEq]
   · simp only [cEq, Value.string.injEq]; rw [bytes_beq]; simp
   · simp [cEq]
  rw [this]
theorem fitsL_ids : ∀ (n : Nat) (x : ID), x.length = n → fitsL (List.replicate n (.i .u8)) (idC x) = true
 | 0, [], _ => rfl
 | n + 1, b :: x, h => by simp only [idC, List.map_cons, List.replicate_succ, fitsL, Bool.and_eq_true]; exact ⟨rfl, fitsL_ids n x (by simpa using h)⟩
def eqFree (P : Program) (t : TypeId) : Prop := P.eqGuardType P.depth t = false
theorem flat1 : ∀ (l : List Value), (l.map fun v => [v]).flatten = l
 | [] => rfl
 | a :: l => by simp only [List.map_cons, List.flatten_cons, List.singleton_append]; rw [flat1 l]
section
variable {P : Program} {c : World} {h : GH} {L : Own} {K : Kont} {KR : Value → Prop}
theorem run_eql_flat {t : TypeId} {ks : List CK} {x y : Operand} {cs ds : List Value} (hs : shp P 20 t = some ks) (ha : isAggT P t = true) (hg : eqFree P t) (f1 : fitsL ks cs = true) (f2 : fitsL ks ds = true) (w : World) :
 (eqG .eql t x y (.agg cs.toArray) (.agg ds.toArray)).run P w = .ok (.bool (csEq cs ds)) w := by
 unfold eqG;rw [Sem.run_bind, run_eqGuard_agg w .eql t x y _ _ hg, Result.andThen_ok, run_eql_struct];have := eqT_all (P := P) 20 t ks hs 10000 (by decide) cs ds f1 f2 w;unfold pack at this; rw [ha] at this;simp only [if_true] at this;rw [this]; rfl
theorem run_neq_flat {t : TypeId} {ks : List CK} {x y : Operand} {cs ds : List Value} (hs : shp P 20 t = some ks) (ha : isAggT P t = true) (hg : eqFree P t) (f1 : fitsL ks cs = true) (f2 : fitsL ks ds = true) (w : World) :
 (eqG .neq t x y (.agg cs.toArray) (.agg ds.toArray)).run P w = .ok (.bool (!csEq cs ds)) w := by
 unfold eqG;rw [Sem.run_bind, run_eqGuard_agg w .neq t x y _ _ hg, Result.andThen_ok, run_neq_struct];have := eqT_all (P := P) 20 t ks hs 10000 (by decide) cs ds f1 f2 w;unfold pack at this; rw [ha] at this;simp only [if_true] at this;rw [this]; rfl
theorem eqlF {t : TypeId} {ks : List CK} {x y : Operand} {cs ds : List Value} (hs : shp P 20 t = some ks) (ha : isAggT P t = true) (hg : eqFree P t) (f1 : fitsL ks cs = true) (f2 : fitsL ks ds = true) (ht : cs = ds → KR (.bool true)) (hf : ¬ cs = ds → KR (.bool false)) :
 DoR P c (eqG .eql t x y (.agg cs.toArray) (.agg ds.toArray)) h L KR := by
 refine doR_pure (run_eql_flat hs ha hg f1 f2) ?_;have := csEq_iff f1 f2;cases hb : csEq cs ds with
 | true => exact ht (this.1 hb)
 | false => exact hf (fun e => by rw [this.2 e] at hb; cases hb)
theorem neqF {t : TypeId} {ks : List CK} {x y : Operand} {cs ds : List Value} (hs : shp P 20 t = some ks) (ha : isAggT P t = true) (hg : eqFree P t) (f1 : fitsL ks cs = true) (f2 : fitsL ks ds = true) (ht : ¬ cs = ds → KR (.bool true)) (hf : cs = ds → KR (.bool false)) :
 DoR P c (eqG .neq t x y (.agg cs.toArray) (.agg ds.toArray)) h L KR := by
 refine doR_pure (run_neq_flat hs ha hg f1 f2) ?_;have := csEq_iff f1 f2;cases hb : csEq cs ds with
 | true => exact hf (this.1 hb)
 | false => exact ht (fun e => by rw [this.2 e] at hb; cases hb)
theorem eqlI {t : TypeId} {x y : Operand} {a b : ID} (hs : shp P 20 t = some (List.replicate 32 (.i .u8))) (ha : isAggT P t = true) (hg : eqFree P t) (f1 : (idC a).length = 32) (f2 : (idC b).length = 32) (ht : a = b → KR (.bool true)) (hf : ¬ a = b → KR (.bool false)) :
 DoR P c (eqG .eql t x y (.agg (idC a).toArray) (.agg (idC b).toArray)) h L KR :=
 eqlF hs ha hg (fitsL_ids 32 a (by rw [← idC_length]; exact f1)) (fitsL_ids 32 b (by rw [← idC_length]; exact f2)) (fun e => ht (idC_inj e)) (fun e => hf (fun e2 => e (by rw [e2])))
theorem neqI {t : TypeId} {x y : Operand} {a b : ID} (hs : shp P 20 t = some (List.replicate 32 (.i .u8))) (ha : isAggT P t = true) (hg : eqFree P t) (f1 : (idC a).length = 32) (f2 : (idC b).length = 32) (ht : ¬ a = b → KR (.bool true)) (hf : a = b → KR (.bool false)) :
 DoR P c (eqG .neq t x y (.agg (idC a).toArray) (.agg (idC b).toArray)) h L KR :=
 neqF hs ha hg (fitsL_ids 32 a (by rw [← idC_length]; exact f1)) (fitsL_ids 32 b (by rw [← idC_length]; exact f2)) (fun e => ht (fun e2 => e (by rw [e2]))) (fun e => hf (idC_inj e))
theorem eqlS {t : TypeId} {x y : Operand} {a b : ByteArray} (ht : a = b → KR (.bool true)) (hf : ¬ a = b → KR (.bool false)) : DoR P c (eqG .eql t x y (.string a) (.string b)) h L KR := by
 refine doR_pure (v := .bool (a.toList == b.toList)) (fun w => by unfold eqG; rw [Sem.run_bind]; rfl) ?_;rw [bytes_beq];by_cases e : a = b
 · rw [decide_eq_true e]; exact ht e
 · rw [decide_eq_false e]; exact hf e
theorem neqS {t : TypeId} {x y : Operand} {a b : ByteArray} (ht : ¬ a = b → KR (.bool true)) (hf : a = b → KR (.bool false)) : DoR P c (eqG .neq t x y (.string a) (.string b)) h L KR := by
 refine doR_pure (v := .bool (!(a.toList == b.toList))) (fun w => by unfold eqG; rw [Sem.run_bind]; rfl) ?_;rw [bytes_beq];by_cases e : a = b
 · rw [decide_eq_true e]; exact hf e
 · rw [decide_eq_false e]; exact ht e
theorem lssS {t : TypeId} {x y : Operand} {a b : ByteArray} (hk : KR (.bool (Op.bytesLess a.toList b.toList))) : DoR P c (eqG .lss t x y (.string a) (.string b)) h L KR :=
 doR_pure (fun w => by unfold eqG; rw [Sem.run_bind]; rfl) hk
theorem gtrS {t : TypeId} {x y : Operand} {a b : ByteArray} (hk : KR (.bool !(Op.bytesLess a.toList b.toList || a.toList == b.toList))) : DoR P c (eqG .gtr t x y (.string a) (.string b)) h L KR :=
 doR_pure (fun w => by unfold eqG; rw [Sem.run_bind]; rfl) hk
theorem eqNil {t e : TypeId} {x y : Operand} {v : Value} {sz : Nat} {ls : List (List Value)} (ht : P.underlying t = some (.slice e)) (hs : Sl h v sz ls) (hyes : ls = [] → KR (.bool true)) (hno : KR (.bool false)) : DoR P c (eqG .eql t x y v (.slice none 0 0)) h L KR := by
 obtain ⟨a, cap, rfl, _, _, hr⟩ := hs.is
 have run : ∀ w, (eqG .eql t x y (.slice a ls.length cap) (.slice none 0 0)).run P w = .ok (.bool a.isNone) w := fun w => by
  unfold eqG;rw [Sem.run_bind];show Sem.run P (binOp _ _ _ _) w = _;simp only [binOp];rw [Sem.run_bind];unfold Op.equal Op.maxDepth Op.equalIn;rw [Sem.run_bind, Go.run_underlying ht];cases a <;> rfl
 cases a with
 | none =>
  refine doR_pure (run) (hyes ?_);rcases hr with h | ⟨_, _, _, h, _⟩
  · exact h
  · cases h
 | some a => exact doR_pure run hno
theorem buildSlice0 {t e sz : Nat} (ht : sliceOf P t e sz = true) (hk : ∀ v N, OS e sz v [] N → K v h (N ++ L)) : DoV P c (Instr.buildSlice t 0 #[]) h L K := by
 obtain ⟨hu, hsi, _⟩ := sliceOf_parts ht
 have hr : ∀ w, (Instr.buildSlice t 0 #[]).run P w = .ok (.slice (some ⟨w.heap.size, 0, none⟩) 0 0) { w with heap := w.heap.push (.cells #[] e) } := fun w => by
  have hs := run_sizeOf hsi w;have h0 : Array.map (fun _ => (default : Value)) (Array.range 0) = #[] := by simp
  simp [Instr.buildSlice, Go.run_underlying hu, hs, Instr.fill, newRow, newObj, h0];first | rfl | (rw [h0]; rfl)
 exact ⟨fun w s => ⟨_, _, h, _, hr w, GH.le_refl h, s.alloc _, hk _ [_] ⟨by simp, by simp, .inr ⟨w.heap.size, [], 0, rfl, rfl, by simp, by simp, by decide⟩⟩⟩⟩
theorem Sl.sub {v : Value} {sz : Nat} {ls : List (List Value)} (hs : Sl h v sz ls) (lo hi : Nat) (h1 : lo ≤ hi) (h2 : hi ≤ ls.length) {a : Option Addr} {cap : Nat} (hv : v = .slice a ls.length cap) (m : Nat) (hm : m = cap) :
 Sl h (.slice (if m = lo then a else a.map (·.add (lo * sz))) (hi - lo) (m - lo)) sz ((ls.drop lo).take (hi - lo)) := by
 obtain ⟨a', cap', e, hc, hc2, hr⟩ := hs.is;rw [hv] at e;simp only [Value.slice.injEq] at e;obtain ⟨rfl, -, rfl⟩ := e;subst hm;have hlen : ((ls.drop lo).take (hi - lo)).length = hi - lo := by simp; omega
 refine ⟨fun l hl => hs.sizes l (List.mem_of_mem_drop (List.mem_of_mem_take hl)), fun l hl => hs.ones l (List.mem_of_mem_drop (List.mem_of_mem_take hl)), by rw [hlen]; have := hs.small; omega, _, m - lo, by rw [hlen], by omega, by omega, ?_⟩;by_cases hz : hi - lo = 0
 · left; rw [hz]; simp
 right;rcases hr with hr | ⟨b, off, o, rfl, hb, hcells⟩
 · subst hr; simp at h2; omega
 · rw [if_neg (by omega)]
   refine ⟨b, off + lo * sz, o, by simp [addr_add], hb, ?_⟩
   have e1 : ((ls.drop lo).take (hi - lo)).flatten = (ls.flatten.drop (lo * sz)).take ((hi - lo) * sz) := by
    rw [flatten_drop lo hs.sizes, flatten_take (hi - lo) (fun l hl => hs.sizes l (List.mem_of_mem_drop hl))]
   rw [e1];exact hcells.drop.take
theorem slice_hi {t e sz : Nat} {v : Value} {ls : List (List Value)} {k : IntKind} {n : Int} {hi : Nat} (ht : sliceOf P t e sz = true) (hs : Sl h v sz ls) (hn : (hi : Int) = n) (hle : hi ≤ ls.length) (hk : ∀ u, Sl h u sz (ls.take hi) → KR u) :
 DoR P c (Instr.sliceAt t v none (some (.int k n)) none) h L KR := by
 obtain ⟨hu, hsi, _⟩ := sliceOf_parts ht;obtain ⟨a, cap, hv, hc, _, _⟩ := hs.is;subst hn;have := hs.sub 0 hi (Nat.zero_le _) hle hv cap rfl;simp only [Nat.sub_zero, List.drop_zero] at this;refine doR_pure (v := .slice (if cap = 0 then a else a.map (·.add (0 * sz))) hi cap) (fun w => ?_) (hk _ this);subst hv;have hsz := run_sizeOf hsi w;simp [Instr.sliceAt, Instr.slice, Go.run_underlying hu, Instr.sliceBounds, run_sliceBound, hsz, show (hi : Int) ≤ cap by omega]
theorem slice_lo {t e sz : Nat} {v : Value} {ls : List (List Value)} {k : IntKind} {n : Int} {lo : Nat} (ht : sliceOf P t e sz = true) (hs : Sl h v sz ls) (hn : (lo : Int) = n) (hle : lo ≤ ls.length) (hk : ∀ u, Sl h u sz (ls.drop lo) → KR u) :
 DoR P c (Instr.sliceAt t v (some (.int k n)) none none) h L KR := by
 obtain ⟨hu, hsi, _⟩ := sliceOf_parts ht;obtain ⟨a, cap, hv, hc, _, _⟩ := hs.is;subst hn;have := hs.sub lo ls.length hle (Nat.le_refl _) hv cap rfl;have e1 : (ls.drop lo).take (ls.length - lo) = ls.drop lo := List.take_of_length_le (by simp);rw [e1] at this;refine doR_pure (v := .slice (if cap = lo then a else a.map (·.add (lo * sz))) (ls.length - lo) (cap - lo)) (fun w => ?_) (hk _ this);subst hv;have hsz := run_sizeOf hsi w;simp [Instr.sliceAt, Instr.slice, Go.run_underlying hu, Instr.sliceBounds, run_sliceBound, hsz, hle]
theorem slice_lohi {t e sz : Nat} {v : Value} {ls : List (List Value)} {k k' : IntKind} {n m : Int} {lo hi : Nat} (ht : sliceOf P t e sz = true) (hs : Sl h v sz ls) (hn : (lo : Int) = n) (hm : (hi : Int) = m) (h1 : lo ≤ hi) (hle : hi ≤ ls.length) (hk : ∀ u, Sl h u sz ((ls.drop lo).take (hi - lo)) → KR u) :
 DoR P c (Instr.sliceAt t v (some (.int k n)) (some (.int k' m)) none) h L KR := by
 obtain ⟨hu, hsi, _⟩ := sliceOf_parts ht;obtain ⟨a, cap, hv, hc, _, _⟩ := hs.is;subst hn; subst hm;have := hs.sub lo hi h1 hle hv cap rfl;refine doR_pure (v := .slice (if cap = lo then a else a.map (·.add (lo * sz))) (hi - lo) (cap - lo)) (fun w => ?_) (hk _ this);subst hv;have hsz := run_sizeOf hsi w;simp [Instr.sliceAt, Instr.slice, Go.run_underlying hu, Instr.sliceBounds, run_sliceBound, hsz, h1, show (hi : Int) ≤ cap by omega]
theorem slice_arr {t m e : Nat} {p : Value} {l r : List Value} (ht : arrayOf P t m e 1 = true) (ha : At h p (l ++ r)) (hl : l.length = m) (hone : l.all oneCell = true) (hm : m < 2 ^ 62) (hk : ∀ u, Sl h u 1 (l.map fun v => [v]) → KR u) :
 DoR P c (Instr.sliceAt t p none none none) h L KR := by
 obtain ⟨hu, hsi⟩ := arrayOf_parts ht;obtain ⟨b, off, o, rfl, hb, hc⟩ := ha;subst hl
 have hsl : Sl h (.slice (some ⟨b, off, none⟩) l.length l.length) 1 (l.map fun v => [v]) := by
  refine ⟨fun x hx => by obtain ⟨v, _, rfl⟩ := List.mem_map.1 hx; rfl, fun x hx => by obtain ⟨v, hv, rfl⟩ := List.mem_map.1 hx; simpa using List.all_eq_true.1 hone v hv, by simpa using hm, _, l.length, by simp, by simp, by omega, .inr ⟨b, off, o, rfl, hb, ?_⟩⟩;have e1 : (l.map fun v => [v]).flatten = l := flat1 l;rw [e1];have := hc.take (k := l.length);rw [List.take_left] at this; exact this
 refine doR_pure (v := .slice (some ⟨b, off, none⟩) l.length l.length) (fun w => ?_) (hk _ hsl);have hsz := run_sizeOf hsi w;by_cases h0 : l.length = 0 <;> simp [Instr.sliceAt, Go.run_underlying hu, Instr.sureAddr, Instr.sliceBounds, hsz, h0, addr_add]
end
end Go.Brd
namespace Go.Brd
abbrev RBytes (h : GH) (v : Value) (x : List UInt8) : Prop := Sl h v 1 (x.map u8C)
theorem map_flat (x : List UInt8) : (x.map u8C).flatten = x.map u8V := by
 induction x with
 | nil => rfl
 | cons b x ih => simp [u8C, ih]
section
variable {P : Program} {c : World} {h : GH} {L : Own} {K : Kont} {KR : Value → Prop}
theorem run_bytesOf {v : Value} {x : List UInt8} (hs : RBytes h v x) {w : World} (s : St c h L w) : (Extern.Bytes.bytesOf v).run P w = .ok ⟨x.toArray⟩ w := by
 obtain ⟨a, cap, rfl, _, _, hr⟩ := hs.is;rw [List.length_map];rcases hr with he | ⟨b, off, o, rfl, hb, hcells⟩
 · have : x = [] := by simpa using he
   subst this;cases a with
   | none => rfl
   | some a => rfl
 · rw [map_flat] at hcells
   have := Lib.run_loadBytesX (P := P) w (x.map fun b => (b.toNat : Int)) ⟨b, off, none⟩ .empty (fun j y hj => by
    rw [List.getElem?_map] at hj;cases hx : x[j]? with
    | none => rw [hx] at hj; cases hj
    | some z =>
     rw [hx] at hj;simp only [Option.map_some, Option.some.injEq] at hj;subst hj;obtain ⟨hlt, e⟩ := List.getElem?_eq_some_iff.1 hx;have := hcells.cell (s.gh b o hb) (j := j) (by simpa using hlt);rw [addr_add, this, List.getElem_map, e]; rfl)
   rw [List.length_map] at this;unfold Extern.Bytes.bytesOf;rw [this];congr 1
   apply ByteArray.ext;simp only [ByteArray.data_empty, Array.empty_append];apply Array.toList_inj.1;simp only [Lib.bytesOf, List.map_map];rw [show ((fun (x : Int) => x.toNat.toUInt8) ∘ fun (b : UInt8) => (b.toNat : Int)) = id from by funext b; simp];simp
theorem compare_ext {f : FuncId} {fn : Func} {v u : Value} {x y : List UInt8} (hf : P.funcs[f]? = some fn) (hname : (fn.name == "runtime.NumGoroutine") = false) (hb : fn.body.isNone = true) (hn : Extern.findNext fn = none) (he : Extern.find fn = some Extern.BytealgCompare.compare)
 (hv : RBytes h v x) (hu : RBytes h u y) : Ext P c f #[v, u] h L (fun z h' L' => z = .int .i64 (Lib.compareBytes x y) ∧ L' = L) := ⟨fun w s => by
 refine ⟨.int .i64 (Lib.compareBytes x y), w, h, L, ?_, GH.le_refl h, s, rfl, rfl⟩;rw [run_callFunc_extern hf hname hb hn he];have e1 : Extern.BytealgCompare.compare #[v, u] = (do pure (goInt (Extern.BytealgCompare.cmp (← Extern.Bytes.bytesOf v) (← Extern.Bytes.bytesOf u)))) := rfl;rw [e1, Sem.run_bind, run_bytesOf hv s, Result.andThen_ok, Sem.run_bind, run_bytesOf hu s, Result.andThen_ok];show (Result.ok _ w).andThen _ = _;rw [Lib.cmp_eq]; rfl⟩
theorem slice_id {t e : Nat} {p : Value} {x : ID} {r : List Value} (ht : arrayOf P t 32 e 1 = true) (ha : At h p (idC x ++ r)) (hl : (idC x).length = 32) (hk : ∀ u, RBytes h u x → KR u) : DoR P c (Instr.sliceAt t p none none none) h L KR := by
 refine slice_arr ht ha hl (idC_one x) (by decide) fun u hu => hk u ?_
 have : ((idC x).map fun v => [v]) = x.map u8C := by simp [idC, u8C, Function.comp_def]
 rw [this] at hu; exact hu
theorem slice_idX {t e : Nat} {p : Value} {x : ID} (ht : arrayOf P t 32 e 1 = true) (ha : At h p (idC x)) (hl : (idC x).length = 32) (hk : ∀ u, RBytes h u x → KR u) : DoR P c (Instr.sliceAt t p none none none) h L KR :=
 slice_id (r := []) ht (by rw [List.append_nil]; exact ha) hl hk
theorem index_idX {t e : Nat} {p : Value} {x : ID} {b : UInt8} {k : Nat} {ik : IntKind} {i : Int} (ht : arrayOf P t 32 e 1 = true) (ha : At h p (idC x)) (hi : (k : Int) = i) (hk : k < 32) (hb : x[k]? = some b) (hK : ∀ q r, At h q (u8V b :: r) → KR q) : DoR P c (Instr.indexAt t p (.int ik i)) h L KR := by
 refine indexArr_at ht ha hi hk fun q hq => hK q ((idC x).drop (k + 1)) ?_
 rw [Nat.mul_one] at hq;obtain ⟨hlt, e⟩ := List.getElem?_eq_some_iff.1 hb
 have : (idC x).drop k = u8V b :: (idC x).drop (k + 1) := by
  rw [List.drop_eq_getElem_cons (by simpa [idC] using hlt)];simp [idC, e]
 rw [this] at hq; exact hq
end
end Go.Brd
namespace Go.Brd
section
variable {P : Program} {c : World} {h : GH} {L : Own} {K : Kont} {KR : Value → Prop}
theorem wrap_u8 (n : Int) : IntKind.u8.wrap n = n % 256 := by unfold IntKind.wrap; simp [IntKind.signed, IntKind.bits]
theorem wrap_u32 (n : Int) : IntKind.u32.wrap n = n % 4294967296 := by unfold IntKind.wrap; simp [IntKind.signed, IntKind.bits]
theorem wrap_u64 (n : Int) : IntKind.u64.wrap n = n % 18446744073709551616 := by unfold IntKind.wrap; simp [IntKind.signed, IntKind.bits]
def intT (P : Program) (s t : TypeId) (k : IntKind) : Bool := (P.underlying s).isSome && match P.underlying t with
 | some (.int k') => k' == k
 | _ => false
theorem run_convert_int {s t : TypeId} {k k0 : IntKind} {n : Int} (ht : intT P s t k = true) (w : World) : (convert s t (.int k0 n)).run P w = .ok (.int k (k.wrap n)) w := by
 unfold intT at ht;simp only [Bool.and_eq_true] at ht;obtain ⟨h1, h2⟩ := ht;obtain ⟨ds, hs⟩ := Option.isSome_iff_exists.1 h1;split at h2
 · rename_i k' hu
   have := eq_of_beq h2;subst this;unfold convert;rw [Sem.run_bind, run_underlying hs, Result.andThen_ok, Sem.run_bind, run_underlying hu, Result.andThen_ok];cases ds <;> rfl
 · cases h2
theorem conv_fit {s t : TypeId} {k k0 : IntKind} {n : Int} (ht : intT P s t k = true) (hw : k.wrap n = n) (hk : KR (.int k n)) : DoR P c (convert s t (.int k0 n)) h L KR :=
 doR_pure (v := .int k n) (fun w => by rw [run_convert_int ht, hw]) hk
theorem conv_u8 {s t : TypeId} {k0 : IntKind} {n : Nat} (ht : intT P s t .u8 = true) (hk : KR (.int .u8 ((n % 256 : Nat) : Int))) : DoR P c (convert s t (.int k0 (n : Int))) h L KR :=
 doR_pure (v := .int .u8 ((n % 256 : Nat) : Int)) (fun w => by rw [run_convert_int ht, wrap_u8]; rfl) hk
theorem conv_u32 {s t : TypeId} {k0 : IntKind} {n : Nat} (ht : intT P s t .u32 = true) (hk : KR (.int .u32 ((n % 4294967296 : Nat) : Int))) : DoR P c (convert s t (.int k0 (n : Int))) h L KR :=
 doR_pure (v := .int .u32 ((n % 4294967296 : Nat) : Int)) (fun w => by rw [run_convert_int ht, wrap_u32]; rfl) hk
theorem conv_u64 {s t : TypeId} {k0 : IntKind} {n : Nat} (ht : intT P s t .u64 = true) (hn : n < 18446744073709551616) (hk : KR (.int .u64 (n : Int))) : DoR P c (convert s t (.int k0 (n : Int))) h L KR :=
 conv_fit ht (by rw [wrap_u64]; omega) hk
theorem conv_i64 {s t : TypeId} {k0 : IntKind} {n : Int} (ht : intT P s t .i64 = true) (hn : InI64 n) (hk : KR (.int .i64 n)) : DoR P c (convert s t (.int k0 n)) h L KR :=
 conv_fit ht (wrap_i64 hn) hk
theorem add_u32 {t : TypeId} {x y : Operand} {a b : Nat} (hk : KR (.int .u32 (((a + b) % 4294967296 : Nat) : Int))) : DoR P c (eqG .add t x y (.int .u32 (a : Int)) (.int .u32 (b : Int))) h L KR :=
 doR_pure (v := .int .u32 (((a + b) % 4294967296 : Nat) : Int)) (fun w => by rw [eqG_int]; show Result.ok (Value.int .u32 (IntKind.u32.wrap _)) w = _; rw [wrap_u32]; rfl) hk
theorem add_u64 {t : TypeId} {x y : Operand} {a b : Nat} (hk : KR (.int .u64 (((a + b) % 18446744073709551616 : Nat) : Int))) : DoR P c (eqG .add t x y (.int .u64 (a : Int)) (.int .u64 (b : Int))) h L KR :=
 doR_pure (v := .int .u64 (((a + b) % 18446744073709551616 : Nat) : Int)) (fun w => by rw [eqG_int]; show Result.ok (Value.int .u64 (IntKind.u64.wrap _)) w = _; rw [wrap_u64]; rfl) hk
theorem mul_u32 {t : TypeId} {x y : Operand} {a b : Nat} (hk : KR (.int .u32 (((a * b) % 4294967296 : Nat) : Int))) : DoR P c (eqG .mul t x y (.int .u32 (a : Int)) (.int .u32 (b : Int))) h L KR :=
 doR_pure (v := .int .u32 (((a * b) % 4294967296 : Nat) : Int)) (fun w => by rw [eqG_int]; show Result.ok (Value.int .u32 (IntKind.u32.wrap _)) w = _; rw [wrap_u32]; rfl) hk
theorem mul_u64 {t : TypeId} {x y : Operand} {a b : Nat} (hk : KR (.int .u64 (((a * b) % 18446744073709551616 : Nat) : Int))) : DoR P c (eqG .mul t x y (.int .u64 (a : Int)) (.int .u64 (b : Int))) h L KR :=
 doR_pure (v := .int .u64 (((a * b) % 18446744073709551616 : Nat) : Int)) (fun w => by rw [eqG_int]; show Result.ok (Value.int .u64 (IntKind.u64.wrap _)) w = _; rw [wrap_u64]; rfl) hk
theorem sub_u64 {t : TypeId} {x y : Operand} {a b : Nat} (hle : b ≤ a) (ha : a < 18446744073709551616) (hk : KR (.int .u64 ((a - b : Nat) : Int))) : DoR P c (eqG .sub t x y (.int .u64 (a : Int)) (.int .u64 (b : Int))) h L KR :=
 doR_pure (v := .int .u64 ((a - b : Nat) : Int)) (fun w => by rw [eqG_int]; show Result.ok (Value.int .u64 (IntKind.u64.wrap _)) w = _; rw [wrap_u64]; congr 2; omega) hk
theorem sub_u32w {t : TypeId} {x y : Operand} {a b : Nat} (hb : b < 4294967296) (hk : KR (.int .u32 (((a + (4294967296 - b)) % 4294967296 : Nat) : Int))) : DoR P c (eqG .sub t x y (.int .u32 (a : Int)) (.int .u32 (b : Int))) h L KR :=
 doR_pure (v := .int .u32 (((a + (4294967296 - b)) % 4294967296 : Nat) : Int)) (fun w => by rw [eqG_int]; show Result.ok (Value.int .u32 (IntKind.u32.wrap _)) w = _; rw [wrap_u32]; congr 2; omega) hk
theorem run_quo_nat {t : TypeId} {x y : Operand} {k : IntKind} {a b : Nat} (hb : 0 < b) (hw : k.wrap ((a / b : Nat) : Int) = ((a / b : Nat) : Int)) (w : World) : (eqG .quo t x y (.int k (a : Int)) (.int k (b : Int))).run P w = .ok (.int k ((a / b : Nat) : Int)) w := by
 rw [eqG_int];have h0 : ¬ ((b : Int) = 0) := by omega
 unfold binOp;simp only [ne_eq, not_true_eq_false, if_false, Op.intDiv, h0];have : (a : Int).tdiv (b : Int) = ((a / b : Nat) : Int) := rfl;rw [this, hw]; rfl
theorem quo_nat {t : TypeId} {x y : Operand} {k : IntKind} {a b : Nat} (hb : 0 < b) (hw : k.wrap ((a / b : Nat) : Int) = ((a / b : Nat) : Int)) (hk : KR (.int k ((a / b : Nat) : Int))) : DoR P c (eqG .quo t x y (.int k (a : Int)) (.int k (b : Int))) h L KR := doR_pure (run_quo_nat hb hw) hk
theorem rem_nat {t : TypeId} {x y : Operand} {k : IntKind} {a b : Nat} (hb : 0 < b) (hk : KR (.int k ((a % b : Nat) : Int))) : DoR P c (eqG .rem t x y (.int k (a : Int)) (.int k (b : Int))) h L KR :=
 doR_pure (v := .int k ((a % b : Nat) : Int)) (fun w => by
  rw [eqG_int];have h0 : ¬ ((b : Int) = 0) := by omega
  unfold binOp;simp only [ne_eq, not_true_eq_false, if_false, Op.intDiv, h0];rfl) hk
theorem shr_nat {t : TypeId} {x y : Operand} {k k' : IntKind} {a n : Nat} (hn : n ≤ k.bits) (hk : KR (.int k ((a / 2 ^ n : Nat) : Int))) : DoR P c (eqG .shr t x y (.int k (a : Int)) (.int k' (n : Int))) h L KR :=
 doR_pure (v := .int k ((a / 2 ^ n : Nat) : Int)) (fun w => by
  rw [eqG_int];have h0 : ¬ ((n : Int) < 0) := by omega
  show Sem.run P (Op.shift .shr k a k' n) w = _;unfold Op.shift;simp only [h0, if_false, Int.toNat_natCast, Nat.min_eq_left hn]
  have : (a : Int).fdiv (2 ^ n) = ((a / 2 ^ n : Nat) : Int) := by
   rw [Int.fdiv_eq_ediv_of_nonneg _ (by exact Int.le_of_lt (Int.pow_pos (by decide)))]
   norm_cast
  rw [this]; rfl) hk
theorem shl_nat {t : TypeId} {x y : Operand} {k k' : IntKind} {a n m : Nat} (hn : n ≤ k.bits) (hw : k.wrap ((a * 2 ^ n : Nat) : Int) = (m : Int)) (hk : KR (.int k (m : Int))) : DoR P c (eqG .shl t x y (.int k (a : Int)) (.int k' (n : Int))) h L KR :=
 doR_pure (v := .int k (m : Int)) (fun w => by
  rw [eqG_int];have h0 : ¬ ((n : Int) < 0) := by omega
  show Sem.run P (Op.shift .shl k a k' n) w = _;unfold Op.shift;simp only [h0, if_false, Int.toNat_natCast, Nat.min_eq_left hn];rw [← hw]; norm_cast) hk
theorem ofNat_bits {n a : Nat} : (BitVec.ofInt n (a : Int)).toNat = a % 2 ^ n := by simp
theorem run_and {k : IntKind} {a b : Nat} (ha : a < 2 ^ k.bits) (hb : b < 2 ^ k.bits) (hw : ∀ n : Nat, n < 2 ^ k.bits → k.wrap (n : Int) = (n : Int)) (w : World) : (Op.intBits .and k (a : Int) (b : Int)).run P w = .ok (.int k ((a &&& b : Nat) : Int)) w := by
 unfold Op.intBits;simp only
 have e : (BitVec.ofInt k.bits (a : Int) &&& BitVec.ofInt k.bits (b : Int)).toNat = a &&& b := by
  rw [BitVec.toNat_and, ofNat_bits, ofNat_bits, Nat.mod_eq_of_lt ha, Nat.mod_eq_of_lt hb]
 rw [e, hw _ (Nat.and_lt_two_pow _ hb)]; rfl
theorem run_or {k : IntKind} {a b : Nat} (ha : a < 2 ^ k.bits) (hb : b < 2 ^ k.bits) (hw : ∀ n : Nat, n < 2 ^ k.bits → k.wrap (n : Int) = (n : Int)) (w : World) : (Op.intBits .or k (a : Int) (b : Int)).run P w = .ok (.int k ((a ||| b : Nat) : Int)) w := by
 unfold Op.intBits;simp only
 have e : (BitVec.ofInt k.bits (a : Int) ||| BitVec.ofInt k.bits (b : Int)).toNat = a ||| b := by
  rw [BitVec.toNat_or, ofNat_bits, ofNat_bits, Nat.mod_eq_of_lt ha, Nat.mod_eq_of_lt hb]
 rw [e, hw _ (Nat.or_lt_two_pow ha hb)]; rfl
theorem run_xor {k : IntKind} {a b : Nat} (ha : a < 2 ^ k.bits) (hb : b < 2 ^ k.bits) (hw : ∀ n : Nat, n < 2 ^ k.bits → k.wrap (n : Int) = (n : Int)) (w : World) : (Op.intBits .xor k (a : Int) (b : Int)).run P w = .ok (.int k ((a ^^^ b : Nat) : Int)) w := by
 unfold Op.intBits;simp only
 have e : (BitVec.ofInt k.bits (a : Int) ^^^ BitVec.ofInt k.bits (b : Int)).toNat = a ^^^ b := by
  rw [BitVec.toNat_xor, ofNat_bits, ofNat_bits, Nat.mod_eq_of_lt ha, Nat.mod_eq_of_lt hb]
 rw [e, hw _ (Nat.xor_lt_two_pow ha hb)]; rfl
theorem wn32 (n : Nat) (h : n < 2 ^ IntKind.u32.bits) : IntKind.u32.wrap (n : Int) = (n : Int) := by
 have h' : n < 4294967296 := h;rw [wrap_u32]; omega
theorem wn64 (n : Nat) (h : n < 2 ^ IntKind.u64.bits) : IntKind.u64.wrap (n : Int) = (n : Int) := by
 have h' : n < 18446744073709551616 := h;rw [wrap_u64]; omega
theorem and_u32 {t : TypeId} {x y : Operand} {a b : Nat} (ha : a < 4294967296) (hb : b < 4294967296) (hk : KR (.int .u32 ((a &&& b : Nat) : Int))) : DoR P c (eqG .and t x y (.int .u32 (a : Int)) (.int .u32 (b : Int))) h L KR := doR_pure (fun w => by rw [eqG_int]; exact run_and (k := .u32) ha hb wn32 w) hk
theorem or_u32 {t : TypeId} {x y : Operand} {a b : Nat} (ha : a < 4294967296) (hb : b < 4294967296) (hk : KR (.int .u32 ((a ||| b : Nat) : Int))) : DoR P c (eqG .or t x y (.int .u32 (a : Int)) (.int .u32 (b : Int))) h L KR := doR_pure (fun w => by rw [eqG_int]; exact run_or (k := .u32) ha hb wn32 w) hk
theorem xor_u32 {t : TypeId} {x y : Operand} {a b : Nat} (ha : a < 4294967296) (hb : b < 4294967296) (hk : KR (.int .u32 ((a ^^^ b : Nat) : Int))) : DoR P c (eqG .xor t x y (.int .u32 (a : Int)) (.int .u32 (b : Int))) h L KR := doR_pure (fun w => by rw [eqG_int]; exact run_xor (k := .u32) ha hb wn32 w) hk
theorem and_u64 {t : TypeId} {x y : Operand} {a b : Nat} (ha : a < 18446744073709551616) (hb : b < 18446744073709551616) (hk : KR (.int .u64 ((a &&& b : Nat) : Int))) : DoR P c (eqG .and t x y (.int .u64 (a : Int)) (.int .u64 (b : Int))) h L KR := doR_pure (fun w => by rw [eqG_int]; exact run_and (k := .u64) ha hb wn64 w) hk
theorem or_u64 {t : TypeId} {x y : Operand} {a b : Nat} (ha : a < 18446744073709551616) (hb : b < 18446744073709551616) (hk : KR (.int .u64 ((a ||| b : Nat) : Int))) : DoR P c (eqG .or t x y (.int .u64 (a : Int)) (.int .u64 (b : Int))) h L KR := doR_pure (fun w => by rw [eqG_int]; exact run_or (k := .u64) ha hb wn64 w) hk
theorem xor_u64 {t : TypeId} {x y : Operand} {a b : Nat} (ha : a < 18446744073709551616) (hb : b < 18446744073709551616) (hk : KR (.int .u64 ((a ^^^ b : Nat) : Int))) : DoR P c (eqG .xor t x y (.int .u64 (a : Int)) (.int .u64 (b : Int))) h L KR := doR_pure (fun w => by rw [eqG_int]; exact run_xor (k := .u64) ha hb wn64 w) hk
end
end Go.Brd
namespace Go.Brd
inductive Parts : List (Nat × Value) → List (Nat × List Value) → Prop
 | nil : Parts [] []
 | cons {i : Nat} {v : Value} {r : List Value} {ps : List (Nat × Value)} {qs : List (Nat × List Value)} (hv : v.cells = r.toArray) (h : Parts ps qs) : Parts ((i, v) :: ps) ((i, r) :: qs)
def fillL (place : Nat → Option (Nat × Nat)) : List Value → List (Nat × List Value) → Option (List Value)
 | cs, [] => some cs
 | cs, (i, r) :: ps => match place i with
  | none => none
  | some (off, size) => if Nat.beq r.length size && Nat.ble (off + size) cs.length then fillL place (over cs off r) ps else none
theorem foldl_over (off : Nat) : ∀ (l : List Value) (k : Nat) (cs : List Value), (l.zipIdx k).foldl (fun (cs : Array Value) (x : Value × Nat) => cs.setIfInBounds (off + x.2) x.1) cs.toArray = (over cs (off + k) l).toArray
 | [], k, cs => rfl
 | x :: r, k, cs => by
  simp only [List.zipIdx_cons, List.foldl_cons, List.setIfInBounds_toArray];exact foldl_over off r (k + 1) (cs.set (off + k) x)
theorem fill_of {place : Nat → Option (Nat × Nat)} : ∀ {ps : List (Nat × Value)} {qs : List (Nat × List Value)} {cs out : List Value}, Parts ps qs → fillL place cs qs = some out → Instr.fill place cs.toArray ps = some out.toArray
 | _, _, _, _, .nil, h => by simp only [fillL, Option.some.injEq] at h; subst h; rfl
 | _, _, cs, out, .cons (i := i) (v := v) (r := r) hv hp, h => by
  unfold fillL at h;unfold Instr.fill;split at h
  · cases h
  · rename_i off size hpl
    rw [hpl];split at h
    · rename_i hc
      simp only [Bool.and_eq_true] at hc;have h1 := Nat.eq_of_beq_eq_true hc.1;have h2 := Nat.le_of_ble_eq_true hc.2;have hsz : v.cells.size = r.length := by rw [hv]; simp
      simp only [hsz, h1, ne_eq, not_true_eq_false, decide_false, List.size_toArray, Bool.false_or];rw [if_neg (by simp; omega)];have := foldl_over off r 0 cs;rw [hv, ← Array.foldl_toList];have e : r.toArray.zipIdx.toList = r.zipIdx := by simp
      rw [e, this];exact fill_of hp h
    · cases h
def zeroC (P : Program) (t : TypeId) : Option (List Value) := match P.info? t with
 | some i => i.zero.map fun z => z.cells.toList
 | none => none
def placesOf (P : Program) (t : TypeId) : Option (List (Nat × Nat)) := match P.underlying t with
 | some (.struct fs) => fs.toList.mapM fun f => (P.info? f.type).map fun i => (f.offset, i.size)
 | _ => none
section
variable {P : Program} {c : World} {h : GH} {L : Own} {K : Kont} {KR : Value → Prop}
theorem zeroC_parts {t : TypeId} {z : List Value} (hz : zeroC P t = some z) : ∃ i v, P.info? t = some i ∧ i.zero = some v ∧ v.cells = z.toArray := by
 unfold zeroC at hz;split at hz
 · rename_i i hi
   obtain ⟨v, hv, e⟩ := Option.map_eq_some_iff.1 hz;exact ⟨i, v, hi, hv, by rw [← e]⟩
 · cases hz
theorem build_struct {t : TypeId} {z out : List Value} {pl : List (Nat × Nat)} {ps : List (Nat × Value)} {qs : List (Nat × List Value)} (hz : zeroC P t = some z) (hp : placesOf P t = some pl) (hq : Parts ps qs) (hf : fillL (fun i => pl[i]?) z qs = some out) (hk : K (.agg out.toArray) h L) :
 DoV P c (Instr.build t ps.toArray) h L K := by
 obtain ⟨i, v, hi, hv, hc⟩ := zeroC_parts hz;unfold placesOf at hp;split at hp
 · rename_i fs hu
   refine doV_pure (fun w => run_build w t _ out.toArray ?_) hk;unfold Program.built;simp only [hi, hu, hv, hp, hc];have := fill_of (place := fun i => pl[i]?) hq hf
   simpa using this
 · cases hp
theorem build_array {t e k sz : Nat} {z out : List Value} {ps : List (Nat × Value)} {qs : List (Nat × List Value)} (hz : zeroC P t = some z) (ha : arrayOf P t k e sz = true) (hq : Parts ps qs) (hf : fillL (fun i => some (i * sz, sz)) z qs = some out) (hk : K (.agg out.toArray) h L) :
 DoV P c (Instr.build t ps.toArray) h L K := by
 obtain ⟨i, v, hi, hv, hc⟩ := zeroC_parts hz;unfold arrayOf at ha;simp only [Bool.and_eq_true] at ha
 have hu : P.underlying t = some (.array k e) := by
  have h1 := ha
  revert h1
  cases hu : P.underlying t with
  | none => intro h1; simp_all
  | some d => cases d <;> intro h1 <;> simp_all
 have hs : ∃ j, P.info? e = some j ∧ j.size = sz := by
  have h1 : sizeIs P e sz = true := by simp_all
  unfold sizeIs at h1;split at h1
  · rename_i j hj; exact ⟨j, hj, Nat.eq_of_beq_eq_true h1⟩
  · cases h1
 obtain ⟨j, hj, hjs⟩ := hs;refine doV_pure (fun w => run_build w t _ out.toArray ?_) hk;unfold Program.built;simp only [hi, hu, hv, hj, hjs, hc];have := fill_of (place := fun i => some (i * sz, sz)) hq hf
 simpa using this
theorem buildSliceN {t e sz n : Nat} {z : List Value} {ps : List (Nat × Value)} {qs : List (Nat × List Value)} {ls : List (List Value)} (ht : sliceOf P t e sz = true) (hz : zeroC P e = some z) (hq : Parts ps qs)
 (hf : fillL (fun i => some (i * sz, sz)) ((List.range (n * sz)).map (fun x => z[x % z.length]!)) qs = some ls.flatten) (hn : ls.length = n) (hs : ∀ l ∈ ls, l.length = sz) (h1 : ∀ l ∈ ls, l.all oneCell = true) (hsm : n * sz ≤ 65536) (hn0 : 0 < n)
 (hk : ∀ v h', GH.le h h' → Sl h' v sz ls → K v h' L) : DoV P c (Instr.buildSlice t n ps.toArray) h L K := by
 obtain ⟨hu, hsi, hpos⟩ := sliceOf_parts ht;obtain ⟨i, v, hi, hv, hc⟩ := zeroC_parts hz;have hisz : ∀ w, (sizeOf e).run P w = .ok sz w := fun w => run_sizeOf hsi w
 have hzv : ∀ w, (zeroValue e).run P w = .ok v w := fun w => by unfold zeroValue typeInfo; simp [hi, hv]
 have hfl := fill_of (place := fun i => some (i * sz, sz)) hq hf
 have hcells : (Array.map (fun x => v.cells[x % v.cells.size]!) (Array.range (n * sz))) = (List.map (fun x => z[x % z.length]!) (List.range (n * sz))).toArray := by
  apply Array.toList_inj.1; simp [hc]
 refine ⟨fun w s => ?_⟩;have s1 := s.alloc (.cells ls.flatten.toArray e (0, 0));have s2 := Ghost.freeze h L w.heap.size (.cells ls.flatten.toArray e (0, 0)) c _ s1
 have hsl : Sl (h.ins w.heap.size (.cells ls.flatten.toArray e (0, 0))) (.slice (some ⟨w.heap.size, 0, none⟩) n n) sz ls :=
  sl_of_row (ls := ls) (E := e) (GH.ins_same _ _ _) rfl hs h1 hn (by have : n ≤ n * sz := Nat.le_mul_of_pos_right n hpos; omega)
 refine ⟨_, _, _, L, ?_, GH.le_ins s1.free, s2, hk _ _ (GH.le_ins s1.free) hsl⟩;have hlim : ¬ (16777216 < n * sz) := by omega
 have h0 : ¬ (n * sz = 0) := by have := Nat.mul_pos hn0 hpos; omega
 have h0' : ¬ (n = 0 ∨ sz = 0) := by
  intro e; rcases e with e | e <;> simp [e] at h0
 rw [← hcells] at hfl
 have hne : (Instr.buildSlice t n ps.toArray).run P w = (do pure (.slice (some (← newRow e ls.flatten.toArray)) n n) : Sem Value).run P w := by
  unfold Instr.buildSlice;simp only [Sem.run_bind, Go.run_underlying hu, Result.andThen_ok, hisz, hlim, h0, if_false, hzv];simp [hfl, hzv]
 rw [hne];rfl
theorem qa {t : TypeId} {z : List Value} (hz : zeroC P t = some z) (hk : ∀ b, K (.pointer (some ⟨b, 0, none⟩)) h ((b, .cells z.toArray t (0, 0)) :: L)) : DoV P c (Instr.alloc t true (.tuple #[])) h L K := by
 obtain ⟨i, v, hi, hv, hc⟩ := zeroC_parts hz;refine doV_new (o := .cells z.toArray t (0, 0)) (f := fun b => .pointer (some ⟨b, 0, none⟩)) (fun w => ?_) hk;unfold Instr.alloc zeroValue typeInfo;simp [hi, hv, newVar_run, hc]
theorem strBytes {src dst e : TypeId} {s : ByteArray} (hs : P.underlying src = some .string) (hd : P.underlying dst = some (.slice e)) (he : P.underlying e = some (.int .u8)) (hsm : s.size < 2 ^ 62)
 (hk : ∀ v h', GH.le h h' → RBytes h' v s.data.toList → K v h' L) : DoV P c (convert src dst (.string s)) h L K := by
 refine ⟨fun w st => ?_⟩;have hr := Lib.run_convert_string_bytes w src dst e s hs hd he
 let o : Obj := .cells (Lib.bytesCells w e s) e ((Lib.bytesCells w e s).size, (Lib.bytesCells w e s).size + 1)
 have hnew := Lib.bytesWorld_at_new w e s;have hold := Lib.bytesWorld_at_old w e s
 have hlt : ∀ {b : Nat} {p : Obj}, w.heap[b]? = some p → b < w.heap.size := fun {b p} e => by
  rcases Nat.lt_or_ge b w.heap.size with h | h
  · exact h
  · rw [Array.getElem?_eq_none h] at e; cases e
 have hfree : h w.heap.size = none := by
  cases hh : h w.heap.size with
  | none => rfl
  | some q => have := hlt (st.gh _ _ hh); omega
 have hcap : s.size ≤ grownCap w s.size 0 e ∧ grownCap w s.size 0 e < 2 ^ 63 := by
  unfold grownCap;constructor
  · show _ ≤ _ + _; omega
  · show s.size + _ % (2 ^ 63 - s.size) < 2 ^ 63
    have : w.tape w.drawn (Question.appendCap s.size 0 e) % (2 ^ 63 - s.size) < 2 ^ 63 - s.size := Nat.mod_lt _ (by omega);omega
 have hsz : s.size = s.data.toList.length := by show s.data.size = _; simp
 refine ⟨_, _, h.ins w.heap.size o, L, hr, GH.le_ins hfree, ?_, hk _ _ (GH.le_ins hfree) ?_⟩
 · refine ⟨st.os, st.tape, st.output, ?_, ?_, ?_, st.nd, ?_⟩
   · intro b p e1
     unfold GH.ins at e1;split at e1
     · subst b; cases e1; exact hnew
     · have := st.gh b p e1; rw [hold b (hlt this)]; exact this
   · intro b p hm
     have := st.own b p hm; rw [hold b (hlt this)]; exact this
   · intro b p hm
     have h1 := hlt (st.own b p hm);unfold GH.ins;rw [if_neg (by omega)]; exact st.sep b p hm
   · exact Nat.le_succ_of_le st.dr
 · refine ⟨?_, ?_, by simp; omega, some ⟨w.heap.size, 0, none⟩, _, ?_, ?_, hcap.2, .inr ⟨w.heap.size, 0, o, rfl, GH.ins_same _ _ _, ?_⟩⟩
   · intro l hl; obtain ⟨b, _, rfl⟩ := List.mem_map.1 hl; rfl
   · intro l hl; obtain ⟨b, _, rfl⟩ := List.mem_map.1 hl; rfl
   · simp; try exact hsz
   · simp; try omega
   · refine ⟨_, _, _, rfl, fun j hj => ?_⟩
     have e1 : (s.data.toList.map u8C).flatten = s.data.toList.map u8V := by
      have := flat1 (s.data.toList.map u8V);rw [List.map_map] at this; exact this
     have hj2 : j < s.data.toList.length := by rw [e1] at hj; simpa using hj
     simp only [Nat.zero_add, e1, Lib.bytesCells];rw [Array.getElem?_append_left (by simpa using hj2)];rw [Array.getElem?_map, List.getElem_map, Array.getElem?_eq_getElem (by simpa using hj2)]; rfl
theorem index_str {t : TypeId} {s : ByteArray} {kx : IntKind} {k : Nat} {i : Int} {b : UInt8} (ht : P.underlying t = some .string) (hi : i = (k : Int)) (hb : s.data.toList[k]? = some b) (hk : KR (u8V b)) : DoR P c (Instr.index t (.string s) (.int kx i)) h L KR := by
 refine doR_pure (v := u8V b) (fun w => ?_) hk;subst hi
 have h1 : s[k]? = some b := by
  obtain ⟨hlt, e⟩ := List.getElem?_eq_some_iff.1 hb;have hlt2 : k < s.size := by simpa using hlt
  rw [getElem?_pos s k hlt2];congr 1
 unfold Instr.index;simp [asIntOf, Go.run_underlying ht, h1, u8V]
theorem max_int {ats : Array TypeId} {ty : TypeId} {k : IntKind} {a b : Int} (hk : KR (.int k (max a b))) : DoR P c (Builtin.max_ ats ty #[.int k a, .int k b]) h L KR := by
 refine doR_pure (v := .int k (max a b)) (fun w => ?_) hk;unfold Builtin.max_;simp [Builtin.max2];split <;> omega
theorem min_int {ats : Array TypeId} {ty : TypeId} {k : IntKind} {a b : Int} (hk : KR (.int k (min a b))) : DoR P c (Builtin.min_ ats ty #[.int k a, .int k b]) h L KR := by
 refine doR_pure (v := .int k (min a b)) (fun w => ?_) hk;unfold Builtin.min_;simp [Builtin.min2];split <;> omega
end
section
variable {P : Program} {c : World} {h h' : GH} {L L' : Own} {K : Kont}
inductive ResIs (P : Program) (c : World) (s : Fr) (h : GH) (L : Own) : ResultVar → Value → Prop
 | tmp {t : Tmp} {v : Value} (hv : Fr.get s t = some v) : ResIs P c s h L (.tmp t) v
 | cell {a : Tmp} {t : TypeId} {p v : Value} (hp : Fr.get s a = some p) (hl : DoR P c (Instr.loadAt t p) h L (fun x => x = v)) : ResIs P c s h L (.cell a t) v
def resOne (tmps : Array Value) : ResultVar → Sem Value
 | .tmp t => pure (tmps.getD t undef)
 | .cell a t => do loadVar t (← asAddr (tmps.getD a undef))
theorem ResIs.cellRun {s : Fr} {a : Tmp} {t : TypeId} {p v : Value} (hp : Fr.get s a = some p) (hl : DoR P c (Instr.loadAt t p) h L (fun x => x = v)) {tmps : Array Value} {w : World} (ht : ∀ i v, Fr.get s i = some v → tmps.getD i undef = v) (st : St c h L w) : (resOne tmps (.cell a t)).run P w = .ok v w := by
 obtain ⟨u, hu, e⟩ := hl;subst e;unfold resOne;simp only [ht _ _ hp];have h2 := hu w h L (GH.le_refl h) (fun _ m => m) st;unfold Instr.loadAt at h2;cases p with
 | pointer o => cases o with
  | some a => exact h2
  | none => exact absurd h2 (fun e => by simp [Instr.sureAddr] at e)
 | _ => exact absurd h2 (fun e => by simp [Instr.sureAddr] at e)
theorem ResIs.run {s : Fr} {r : ResultVar} {v : Value} (hr : ResIs P c s h L r v) {tmps : Array Value} {w : World} (ht : ∀ i v, Fr.get s i = some v → tmps.getD i undef = v) (st : St c h L w) : (resOne tmps r).run P w = .ok v w := by
 cases hr with
 | tmp hv => unfold resOne; simp only [ht _ _ hv]; rfl
 | cell hp hl =>
  exact ResIs.cellRun hp hl ht st
theorem results_eq (fn : Func) (tmps : Array Value) : results fn tmps = (do
 let vs ← fn.results.mapM (resOne tmps)
 pure (if h : vs.size = 1 then vs[0] else .tuple vs)) := by
 unfold results;have : (fun r => resOne tmps r) = resOne tmps := rfl;rw [← this];congr 1
theorem DoRet.r1 {a : ResultVar} {s : Fr} {v : Value} (ha : ResIs P c s h L a v) (hg : Ghost h L h' L') (hle : GH.le h h') (hk : K v h' L') : DoRet [a] s h L P c K := ⟨fun tmps w fn hr ht hs => by
 have hr' : fn.results = #[a] := by apply Array.toList_inj.1; simpa using hr
 refine ⟨_, h', L', ?_, hle, hg c w hs, hk⟩;have h1 := ha.run ht hs;rw [results_eq, hr'];simp [h1]⟩
theorem DoRet.r2 {a b : ResultVar} {s : Fr} {v u : Value} (ha : ResIs P c s h L a v) (hb : ResIs P c s h L b u) (hg : Ghost h L h' L') (hle : GH.le h h') (hk : K (.tuple #[v, u]) h' L') : DoRet [a, b] s h L P c K := ⟨fun tmps w fn hr ht hs => by
 have hr' : fn.results = #[a, b] := by apply Array.toList_inj.1; simpa using hr
 refine ⟨_, h', L', ?_, hle, hg c w hs, hk⟩;have h1 := ha.run ht hs;have h2 := hb.run ht hs;rw [results_eq, hr'];simp [h1, h2]⟩
theorem DoRet.r3 {a b d : ResultVar} {s : Fr} {v u x : Value} (ha : ResIs P c s h L a v) (hb : ResIs P c s h L b u) (hd : ResIs P c s h L d x) (hg : Ghost h L h' L') (hle : GH.le h h') (hk : K (.tuple #[v, u, x]) h' L') : DoRet [a, b, d] s h L P c K := ⟨fun tmps w fn hr ht hs => by
 have hr' : fn.results = #[a, b, d] := by apply Array.toList_inj.1; simpa using hr
 refine ⟨_, h', L', ?_, hle, hg c w hs, hk⟩;have h1 := ha.run ht hs;have h2 := hb.run ht hs;have h3 := hd.run ht hs;rw [results_eq, hr'];simp [h1, h2, h3]⟩
end
end Go.Brd
namespace Go.Brd
theorem over_all {l r : List Value} (h : l.length = r.length) : over l 0 r = r := by
 have := over_append [] l r [] h
 simpa using this
theorem over_mid {a b c r : List Value} {n : Nat} (h : b.length = r.length) (hn : n = a.length) : over (a ++ (b ++ c)) n r = a ++ (r ++ c) := by
 subst hn; exact over_append a b r c h
theorem over_tail {a b r : List Value} {n : Nat} (h : b.length = r.length) (hn : n = a.length) : over (a ++ b) n r = a ++ r := by
 have := over_append a b r [] h;subst hn; simpa using this
theorem over_head {b c r : List Value} (h : b.length = r.length) : over (b ++ c) 0 r = r ++ c := by
 have := over_append [] b r c h
 simpa using this
theorem Sl.cells {h : GH} {v : Value} {sz : Nat} {ls : List (List Value)} (s : Sl h v sz ls) : v.cells = [v].toArray := by
 obtain ⟨a, cap, rfl, _⟩ := s.is; rfl
theorem OS.cells {E sz : Nat} {v : Value} {ls : List (List Value)} {N : Own} (s : OS E sz v ls N) : v.cells = [v].toArray := by
 rcases s.is with ⟨rfl, _, _⟩ | ⟨b, rest, cap, rfl, _⟩ <;> rfl
theorem OS.one {E sz : Nat} {v : Value} {ls : List (List Value)} {N : Own} (s : OS E sz v ls N) : oneCell v = true := by
 rcases s.is with ⟨rfl, _, _⟩ | ⟨b, rest, cap, rfl, _⟩ <;> rfl
theorem one_cells {v : Value} (h : oneCell v = true) : v.cells = [v].toArray := by
 cases v <;> first | rfl | (cases h; done)
section
variable {P : Program} {c : World} {h : GH} {L : Own} {K : Kont} {KR : Value → Prop}
theorem DoV.after {m : Sem Value} (hd : DoV P c m h L (fun v h' L' => ∃ L'', L'.Perm L'' ∧ K v h' L'')) : DoV P c m h L K := ⟨fun w s => by
 obtain ⟨v, w', h', L', hr, hle, hs, L'', hp, hk⟩ := hd.run w s;exact ⟨v, w', h', L'', hr, hle, Ghost.perm hp c w' hs, hk⟩⟩
theorem DoU.after {m : Sem Unit} (hd : DoU P c m h L (fun v h' L' => ∃ L'', L'.Perm L'' ∧ K v h' L'')) : DoU P c m h L K := ⟨fun w s => by
 obtain ⟨w', h', L', hr, hle, hs, L'', hp, hk⟩ := hd.run w s;exact ⟨w', h', L'', hr, hle, Ghost.perm hp c w' hs, hk⟩⟩
theorem kB {t n b off : Nat} {E : TypeId} {v : Value} {l r l' : List Value} {M L' : Own} (ht : sizeIs P t n = true) (hv : v.cells = r.toArray) (hn : r.length = n) (hone : r.all oneCell = true) (hL : L.Perm ((b, .cells l.toArray E (0, 0)) :: M)) (hlen : off + n ≤ l.length)
 (hov : over l off r = l') (hL' : ((b, .cells l'.toArray E (0, 0)) :: M).Perm L') (hk : K undef h L') : DoU P c (Instr.storeAt t (.pointer (some ⟨b, off, none⟩)) v) h L K := by
 refine DoU.after (store_own ht hv hn hL hlen (.inl rfl) hone ?_);rw [hov]; exact ⟨L', hL', hk⟩
theorem qp {t xt e sz : Nat} {ty : TypeId} {v x : Value} {ls xs : List (List Value)} {N M : Own} (ht : sliceOf P t e sz = true) (hxt : sliceOf P xt e sz = true) (hz : zeroIs P e sz = true) (hv : OS e sz v ls N) (hx : Sl h x sz xs) (hL : L.Perm (N ++ M))
 (hn : ls.length + xs.length ≤ 1073741824) (hk : ∀ v' N', OS e sz v' (ls ++ xs) N' → ∃ L'', (N' ++ M).Perm L'' ∧ K v' h L'') : DoV P c (Builtin.append_ #[t, xt] ty #[v, x]) h L K :=
 DoV.after (append_own ht hxt hz hv hx hL hn hk)
theorem unOp_xor_u32 {a : Nat} (ha : a < 4294967296) (hk : KR (.int .u32 ((4294967295 - a : Nat) : Int))) : DoR P c (Op.unary .xor (.int .u32 (a : Int))) h L KR := by
 refine doR_pure (v := .int .u32 ((4294967295 - a : Nat) : Int)) (fun w => ?_) hk;have := run_xor (P := P) (k := .u32) (a := 4294967295) (b := a) (by decide) ha wn32 w
 have e : (4294967295 ^^^ a : Nat) = 4294967295 - a := by
  have h1 : (BitVec.ofNat 32 4294967295 ^^^ BitVec.ofNat 32 a) = BitVec.ofNat 32 (4294967295 - a) := by
   have h2 : BitVec.ofNat 32 4294967295 = BitVec.allOnes 32 := by decide
   rw [h2, BitVec.allOnes_xor];apply BitVec.eq_of_toNat_eq;rw [BitVec.toNat_not]; simp; omega
  have h3 := congrArg BitVec.toNat h1;rw [BitVec.toNat_xor] at h3;simp at h3;rw [Nat.mod_eq_of_lt ha, Nat.mod_eq_of_lt (by omega)] at h3;exact h3
 rw [e] at this;exact this
theorem neg_i64 {a : Int} (ha : InI64 (-a)) (hk : KR (.int .i64 (-a))) : DoR P c (Op.unary .neg (.int .i64 a)) h L KR := by
 refine doR_pure (v := .int .i64 (-a)) (fun w => ?_) hk;have : IntKind.i64.wrap (0 - a) = -a := by rw [show (0 : Int) - a = -a by omega]; exact wrap_i64 ha
 show Sem.run P (Op.intArith .sub .i64 0 a) w = _;unfold Op.intArith;simp only [this];rfl
end
section
variable {P : Program} {c : World} {h : GH} {L : Own} {K : Kont}
theorem DoCall.freeze {n : FuncId} {fi ca args : Array Value} {E sz : Nat} {v : Value} {ls : List (List Value)} {N M : Own} (hp : plain P n = true) (s : OS E sz v ls N) (hsm : ls.length < 2 ^ 62) (hL : L.Perm (N ++ M))
 (hk : ∀ h', GH.le h h' → Sl h' v sz ls → DoCall P c (.func (.func n) fi ca) args h' M K) : DoCall P c (.func (.func n) fi ca) args h L K := by
 obtain ⟨h', hf⟩ := s.freeze (L := M) (h := h) hsm;by_cases hw : ∃ w, St c h L w
 · obtain ⟨w, st⟩ := hw
   obtain ⟨_, hle, hsl⟩ := hf c w (Ghost.perm hL c w st);exact DoCall.ghost (fun c' w' st' => (hf c' w' (Ghost.perm hL c' w' st')).1) hle (hk h' hle hsl)
 · exact ⟨n, fi, ca, rfl, .inl ⟨hp, fun w st => absurd ⟨w, st⟩ hw⟩⟩
theorem DoV.freezeBox {m : Sem Value} {b : Nat} {o : Obj} {M : Own} (hL : L.Perm ((b, o) :: M)) (hk : ∀ h', GH.le h h' → h' b = some o → DoV P c m h' M K) : DoV P c m h L K := by
 refine ⟨fun w st => ?_⟩;have st1 := Ghost.perm hL c w st;have st' := Ghost.freeze h M b o c w st1;obtain ⟨u, w', h2, L2, hr, hle2, hs2, hk2⟩ := (hk _ (GH.le_ins (St.free st1)) (GH.ins_same _ _ _)).run w st';exact ⟨u, w', h2, L2, hr, GH.le_trans (GH.le_ins (St.free st1)) hle2, hs2, hk2⟩
theorem DoCall.freezeBox {n : FuncId} {fi ca args : Array Value} {b : Nat} {o : Obj} {M : Own} (hp : plain P n = true) (hL : L.Perm ((b, o) :: M)) (hk : ∀ h', GH.le h h' → h' b = some o → DoCall P c (.func (.func n) fi ca) args h' M K) : DoCall P c (.func (.func n) fi ca) args h L K := by
 by_cases hw : ∃ w, St c h L w
 · obtain ⟨w, st⟩ := hw
   have st1 := Ghost.perm hL c w st;refine DoCall.ghost (fun c' w' st' => Ghost.freeze h M b o c' w' (Ghost.perm hL c' w' st')) (GH.le_ins (St.free st1)) (hk _ (GH.le_ins (St.free st1)) (GH.ins_same _ _ _))
 · exact ⟨n, fi, ca, rfl, .inl ⟨hp, fun w st => absurd ⟨w, st⟩ hw⟩⟩
theorem At.frozen {b : Nat} {l : List Value} {E : TypeId} (hb : h b = some (.cells l.toArray E (0, 0))) : At h (.pointer (some ⟨b, 0, none⟩)) l := ⟨b, 0, _, rfl, hb, CellsAt.all _ _ _⟩
end
end Go.Brd
namespace Go.Brd
theorem one1 {v : Value} (h : oneCell v = true) : [v].all oneCell = true := by simp [h]
theorem all1 {α : Type} {p : α → Prop} {a : α} (h1 : p a) : ∀ x ∈ [a], p x := by simpa using h1
theorem all2 {α : Type} {p : α → Prop} {a b : α} (h1 : p a) (h2 : p b) : ∀ x ∈ [a, b], p x := by simpa using ⟨h1, h2⟩
theorem all3 {α : Type} {p : α → Prop} {a b c : α} (h1 : p a) (h2 : p b) (h3 : p c) : ∀ x ∈ [a, b, c], p x := by simpa using ⟨h1, h2, h3⟩
theorem all4 {α : Type} {p : α → Prop} {a b c d : α} (h1 : p a) (h2 : p b) (h3 : p c) (h4 : p d) : ∀ x ∈ [a, b, c, d], p x := by simpa using ⟨h1, h2, h3, h4⟩
theorem mem1 {α : Type} {L : List α} {a : α} (h1 : a ∈ L) : ∀ x ∈ [a], x ∈ L := by simpa using h1
theorem mem2 {α : Type} {L : List α} {a b : α} (h1 : a ∈ L) (h2 : b ∈ L) : ∀ x ∈ [a, b], x ∈ L := by simpa using ⟨h1, h2⟩
theorem mem3 {α : Type} {L : List α} {a b c : α} (h1 : a ∈ L) (h2 : b ∈ L) (h3 : c ∈ L) : ∀ x ∈ [a, b, c], x ∈ L := by simpa using ⟨h1, h2, h3⟩
theorem mem4 {α : Type} {L : List α} {a b c d : α} (h1 : a ∈ L) (h2 : b ∈ L) (h3 : c ∈ L) (h4 : d ∈ L) : ∀ x ∈ [a, b, c, d], x ∈ L := by simpa using ⟨h1, h2, h3, h4⟩
theorem qx {P : Program} {c : World} {h : GH} {L : Own} {KR : Value → Prop} {t n : Nat} {b off : Nat} {l r : List Value} {E : TypeId} {fr : Nat × Nat} (ht : aggN P t n = true) (ho : (b, Obj.cells l.toArray E fr) ∈ L) (hn : off + n ≤ l.length) (hr : (l.drop off).take n = r) (hk : KR (.agg r.toArray)) : DoR P c (Instr.loadAt t (.pointer (some ⟨b, off, none⟩))) h L KR :=
 load_ownAgg ht ho hn (by rw [hr]; exact hk)
end Go.Brd
namespace Go.Brd
section
variable {P : Program} {c : World} {h : GH} {L : Own} {KR : Value → Prop}
theorem add_u32n {t : TypeId} {x y : Operand} {a b : Nat} (hb : a + b < 4294967296) (hk : KR (.int .u32 ((a + b : Nat) : Int))) : DoR P c (eqG .add t x y (.int .u32 (a : Int)) (.int .u32 (b : Int))) h L KR := add_u32 (by rw [Nat.mod_eq_of_lt hb]; exact hk)
theorem add_u64n {t : TypeId} {x y : Operand} {a b : Nat} (hb : a + b < 18446744073709551616) (hk : KR (.int .u64 ((a + b : Nat) : Int))) : DoR P c (eqG .add t x y (.int .u64 (a : Int)) (.int .u64 (b : Int))) h L KR := add_u64 (by rw [Nat.mod_eq_of_lt hb]; exact hk)
theorem mul_u32n {t : TypeId} {x y : Operand} {a b : Nat} (hb : a * b < 4294967296) (hk : KR (.int .u32 ((a * b : Nat) : Int))) : DoR P c (eqG .mul t x y (.int .u32 (a : Int)) (.int .u32 (b : Int))) h L KR := mul_u32 (by rw [Nat.mod_eq_of_lt hb]; exact hk)
theorem mul_u64n {t : TypeId} {x y : Operand} {a b : Nat} (hb : a * b < 18446744073709551616) (hk : KR (.int .u64 ((a * b : Nat) : Int))) : DoR P c (eqG .mul t x y (.int .u64 (a : Int)) (.int .u64 (b : Int))) h L KR := mul_u64 (by rw [Nat.mod_eq_of_lt hb]; exact hk)
theorem conv_u32n {s t : TypeId} {k0 : IntKind} {n : Nat} (ht : intT P s t .u32 = true) (hn : n < 4294967296) (hk : KR (.int .u32 (n : Int))) : DoR P c (convert s t (.int k0 (n : Int))) h L KR := conv_u32 ht (by rw [Nat.mod_eq_of_lt hn]; exact hk)
theorem conv_u8n {s t : TypeId} {k0 : IntKind} {n : Nat} (ht : intT P s t .u8 = true) (hn : n < 256) (hk : KR (.int .u8 (n : Int))) : DoR P c (convert s t (.int k0 (n : Int))) h L KR := conv_u8 ht (by rw [Nat.mod_eq_of_lt hn]; exact hk)
end
end Go.Brd
namespace Go.Brd
section
variable {P : Program} {c : World} {h : GH} {L : Own} {K : Kont}
theorem St.setObj {b : Nat} {o o' : Obj} {w : World} (s : St c h ((b, o) :: L) w) : St c h ((b, o') :: L) { w with heap := w.heap.setIfInBounds b o' } := by
 have hb := s.own b _ (List.mem_cons_self ..)
 have hlt : b < w.heap.size := by
  rcases Nat.lt_or_ge b w.heap.size with h | h
  · exact h
  · rw [Array.getElem?_eq_none h] at hb; cases hb
 have hne : ∀ x, x ≠ b → (w.heap.setIfInBounds b o')[x]? = w.heap[x]? := fun x hx => by
  rw [Array.getElem?_setIfInBounds, if_neg (Ne.symm hx)]
 refine ⟨s.os, s.tape, s.output, fun x o e => ?_, fun x o hm => ?_, fun x o hm => ?_, s.nd, s.dr⟩
 · have : x ≠ b := fun e2 => by subst e2; rw [s.free] at e; cases e
   show (w.heap.setIfInBounds b o')[x]? = _;rw [hne x this]; exact s.gh x o e
 · rcases List.mem_cons.1 hm with e | hm
   · cases e; show (w.heap.setIfInBounds b o')[b]? = _; simp [hlt]
   · have : x ≠ b := fun e2 => by
      have hnd := s.nd; simp only [List.map_cons, List.nodup_cons] at hnd;exact hnd.1 (List.mem_map.2 ⟨(x, o), hm, e2⟩)
     show (w.heap.setIfInBounds b o')[x]? = _;rw [hne x this]; exact s.own x o (List.mem_cons_of_mem _ hm)
 · rcases List.mem_cons.1 hm with e | hm
   · cases e; exact s.free
   · exact s.sep x o (List.mem_cons_of_mem _ hm)
theorem run_getObj {w : World} {r : Nat} {o : Obj} (ho : ∀ cs E fr, o ≠ .cells cs E fr) (hb : w.heap[r]? = some o) : (getObj r).run P w = .ok o w := by
 cases o with
 | cells cs E fr => exact absurd rfl (ho cs E fr)
 | _ => simp [getObj, Sem.run, hb]
theorem range_str {t : TypeId} {s : ByteArray} (ht : P.underlying t = some .string) (hk : ∀ b, K (.pointer (some ⟨b, 0, none⟩)) h ((b, .stringIter s 0) :: L)) : DoV P c (Instr.range t (.string s)) h L K := by
 refine doV_new (o := .stringIter s 0) (f := fun b => .pointer (some ⟨b, 0, none⟩)) (fun w => ?_) hk;unfold Instr.range;simp [Go.run_underlying ht, newObj];rfl
theorem next_str {ty : TypeId} {b pos : Nat} {s : ByteArray} {M : Own} (hL : L.Perm ((b, .stringIter s pos) :: M))
 (ht : pos < s.size → ∃ L', ((b, .stringIter s (pos + (Utf8.decode s pos).2)) :: M : Own).Perm L' ∧ K (.tuple #[.bool true, .int .i64 (pos : Int), .int .i32 ((Utf8.decode s pos).1 : Int)]) h L')
 (hf : ¬ pos < s.size → K (.tuple #[.bool false]) h L) : DoV P c (Instr.next (.pointer (some ⟨b, 0, none⟩)) true ty) h L K := by
 refine ⟨fun w st0 => ?_⟩;have st := Ghost.perm (h := h) hL c w st0;have hb := st.own b _ (List.mem_cons_self ..);by_cases hp : pos < s.size
 · obtain ⟨L', hp', hk⟩ := ht hp
   refine ⟨_, _, h, L', ?_, GH.le_refl h, Ghost.perm hp' c _ (st.setObj (o' := .stringIter s (pos + (Utf8.decode s pos).2))), hk⟩;unfold Instr.next
   simp [getObj, setObj, Sem.run, hb, hp, goInt]
 · refine ⟨_, w, h, L, ?_, GH.le_refl h, st0, hf hp⟩
   unfold Instr.next
   simp [getObj, Sem.run, hb, hp]
theorem eqlBool {t : TypeId} {x y : Operand} {a b : Bool} {KR : Value → Prop} (ht : P.underlying t = some .bool) (hk : KR (.bool (a == b))) : DoR P c (eqG .eql t x y (.bool a) (.bool b)) h L KR :=
 doR_pure (v := .bool (a == b)) (fun w => by
  have h1 : (Op.equal t (.bool a) (.bool b)).run P w = .ok (a == b) w := run_equalIn_bool' w 9999 t a b ht;unfold eqG;rw [Sem.run_bind];have h2 : (eqGuard .eql t x y (.bool a) (.bool b)).run P w = .ok () w := by unfold eqGuard; rfl
  rw [h2, Result.andThen_ok];show ((Op.equal t (.bool a) (.bool b)).bind _).run P w = _;have e1 : ∀ (α β : Type) (m : Sem α) (f : α → Sem β), Sem.bind m f = (m >>= f) := fun _ _ _ _ => rfl
  rw [e1, Sem.run_bind, h1]; rfl) hk
end
def okBytes (lo : Nat) (s : ByteArray) : Bool := s.data.toList.all fun b => decide (lo ≤ b.toNat ∧ b.toNat ≤ 126)
theorem decode_at {s : ByteArray} {pos : Nat} (h : pos < s.size) : ∃ b : UInt8, s.data.toList[pos]? = some b ∧ ((b.toNat < 128 ∧ Utf8.decode s pos = (b.toNat, 1)) ∨ (128 ≤ b.toNat ∧ 128 ≤ (Utf8.decode s pos).1 ∧ 1 ≤ (Utf8.decode s pos).2)) := by
 refine ⟨s[pos]'h, ?_, ?_⟩
 · have : pos < s.data.toList.length := by simpa using h
   rw [List.getElem?_eq_getElem this]; simp; rfl
 · by_cases ha : (s[pos]'h).toNat < 128
   · exact .inl ⟨ha, decode_ascii s pos h ha⟩
   · exact .inr ⟨by omega, decode_high s pos h (by omega)⟩
end Go.Brd
namespace Go.Brd
section
variable {P : Program} {c : World} {h : GH} {L : Own} {KR : Value → Prop}
theorem and_i64n {t : TypeId} {x y : Operand} {a b : Nat} (ha : a < 9223372036854775808) (hb : b < 9223372036854775808) (hk : KR (.int .i64 ((a &&& b : Nat) : Int))) : DoR P c (eqG .and t x y (.int .i64 (a : Int)) (.int .i64 (b : Int))) h L KR := by
 refine doR_pure (v := .int .i64 ((a &&& b : Nat) : Int)) (fun w => ?_) hk;rw [eqG_int];show Sem.run P (Op.intBits .and .i64 (a : Int) (b : Int)) w = _;unfold Op.intBits;simp only
 have e : (BitVec.ofInt IntKind.i64.bits (a : Int) &&& BitVec.ofInt IntKind.i64.bits (b : Int)).toNat = a &&& b := by
  rw [BitVec.toNat_and, ofNat_bits, ofNat_bits, Nat.mod_eq_of_lt (by show a < 2 ^ 64; omega), Nat.mod_eq_of_lt (by show b < 2 ^ 64; omega)]
 have hlt : a &&& b < 2 ^ 63 := Nat.and_lt_two_pow _ hb;rw [e, wrap_i64 (by unfold InI64; omega)]; rfl
end
end Go.Brd
namespace Go.Brd
def rowO (E : TypeId) (xs : List (List Value)) (rest : List Value) : Obj := .cells (xs.flatten ++ rest).toArray E (0, 0)
theorem flat_get {sz : Nat} {xs : List (List Value)} {rest : List Value} {k : Nat} {x : List Value} (hs : ∀ l ∈ xs, l.length = sz) (hx : xs[k]? = some x) : ((xs.flatten ++ rest).drop (k * sz)).take sz = x ∧ k * sz + sz ≤ (xs.flatten ++ rest).length := by
 obtain ⟨hk, e⟩ := List.getElem?_eq_some_iff.1 hx;have h1 : xs = xs.take k ++ (x :: xs.drop (k + 1)) := by rw [← e]; simp
 have hlen : (xs.take k).flatten.length = k * sz := by
  rw [flatten_length (sz := sz) (fun l hl => hs l (List.mem_of_mem_take hl)), List.length_take, Nat.min_eq_left (by omega)]
 have hxl : x.length = sz := hs x (List.mem_of_getElem? hx)
 have h2 : xs.flatten ++ rest = (xs.take k).flatten ++ (x ++ ((xs.drop (k + 1)).flatten ++ rest)) := by
  conv => lhs; rw [h1]
  rw [List.flatten_append, List.flatten_cons]; simp only [List.append_assoc]
 rw [h2, ← hlen, List.drop_left, ← hxl, List.take_left];refine ⟨rfl, ?_⟩;simp only [List.length_append]; omega
theorem OS.toRow {E sz : Nat} {v : Value} {ls : List (List Value)} {N : Own} (s : OS E sz v ls N) (hne : 0 < ls.length) :
 ∃ b rest cap, v = .slice (some ⟨b, 0, none⟩) ls.length cap ∧ N = [(b, rowO E ls rest)] ∧ cap * sz = ls.length * sz + rest.length ∧ ls.length ≤ cap ∧ cap < 2 ^ 63 := s.open hne
theorem OS.ofRow {E sz b cap n : Nat} {ls : List (List Value)} {rest : List Value} (hs : ∀ l ∈ ls, l.length = sz) (h1 : ∀ l ∈ ls, l.all oneCell = true) (hn : ls.length = n) (hc : cap * sz = n * sz + rest.length) (hle : n ≤ cap) (hc2 : cap < 2 ^ 63) :
 OS E sz (.slice (some ⟨b, 0, none⟩) n cap) ls [(b, rowO E ls rest)] := by
 subst hn; exact ⟨hs, h1, .inr ⟨b, rest, cap, rfl, rfl, hc, hle, hc2⟩⟩
theorem set_all {p : List Value → Prop} {xs : List (List Value)} {k : Nat} {r : List Value} (h : ∀ l ∈ xs, p l) (hr : p r) : ∀ l ∈ xs.set k r, p l := fun l hl => by
 rcases List.mem_or_eq_of_mem_set hl with h1 | h1
 · exact h l h1
 · rw [h1]; exact hr
section
variable {P : Program} {c : World} {h : GH} {L : Own} {K : Kont} {KR : Value → Prop}
theorem load_rowX {t n b off k : Nat} {E : TypeId} {xs : List (List Value)} {rest x : List Value} (ht : aggN P t n = true) (hm : (b, rowO E xs rest) ∈ L) (hs : ∀ l ∈ xs, l.length = n) (hx : xs[k]? = some x) (ho : off = k * n) (hk : KR (.agg x.toArray)) : DoR P c (Instr.loadAt t (.pointer (some ⟨b, off, none⟩))) h L KR := by
 obtain ⟨h1, h2⟩ := flat_get (rest := rest) hs hx;subst ho;exact qx ht hm h2 h1 hk
theorem load_row1 {t b off k : Nat} {E : TypeId} {xs : List (List Value)} {rest : List Value} {v : Value} (ht : scalar P t = true) (hm : (b, rowO E xs rest) ∈ L) (hs : ∀ l ∈ xs, l.length = 1) (hx : xs[k]? = some [v]) (ho : off = k) (hk : KR v) : DoR P c (Instr.loadAt t (.pointer (some ⟨b, off, none⟩))) h L KR := by
 obtain ⟨h1, h2⟩ := flat_get (rest := rest) hs hx;rw [Nat.mul_one] at h1 h2;refine qO ht hm (v := v) ?_ hk;subst ho
 have h3 : ((xs.flatten ++ rest).drop off)[0]? = some v := by
  have : (((xs.flatten ++ rest).drop off).take 1)[0]? = some v := by rw [h1]; rfl
  rw [List.getElem?_take_of_lt (by decide)] at this; exact this
 rw [List.getElem?_drop] at h3; simpa using h3
theorem store_row {t n b off k : Nat} {E : TypeId} {xs : List (List Value)} {rest r : List Value} {v : Value} {M L' : Own} (ht : sizeIs P t n = true) (hv : v.cells = r.toArray) (hn : r.length = n) (hone : r.all oneCell = true) (hL : L.Perm ((b, rowO E xs rest) :: M)) (hs : ∀ l ∈ xs, l.length = n) (hk : k < xs.length) (ho : off = k * n)
 (hL' : ((b, rowO E (xs.set k r) rest) :: M : Own).Perm L') (hK : K undef h L') : DoU P c (Instr.storeAt t (.pointer (some ⟨b, off, none⟩)) v) h L K := by
 subst ho;refine kB ht hv hn hone hL ?_ (over_flatten hs hk hn) hL' hK;have := flatten_length hs;have h2 : (k + 1) * n ≤ xs.length * n := Nat.mul_le_mul_right n hk;rw [Nat.add_mul] at h2;rw [List.length_append, this]; omega
theorem buildSliceO {t e sz n : Nat} {z : List Value} {ps : List (Nat × Value)} {qs : List (Nat × List Value)} {ls : List (List Value)} (ht : sliceOf P t e sz = true) (hz : zeroC P e = some z) (hq : Parts ps qs)
 (hf : fillL (fun i => some (i * sz, sz)) ((List.range (n * sz)).map (fun x => z[x % z.length]!)) qs = some ls.flatten) (hn : ls.length = n) (hs : ∀ l ∈ ls, l.length = sz) (h1 : ∀ l ∈ ls, l.all oneCell = true) (hsm : n * sz ≤ 65536) (hn0 : 0 < n)
 (hk : ∀ v N, OS e sz v ls N → K v h (N ++ L)) : DoV P c (Instr.buildSlice t n ps.toArray) h L K := by
 obtain ⟨hu, hsi, hpos⟩ := sliceOf_parts ht;obtain ⟨i, v, hi, hv, hc⟩ := zeroC_parts hz;have hisz : ∀ w, (sizeOf e).run P w = .ok sz w := fun w => run_sizeOf hsi w
 have hzv : ∀ w, (zeroValue e).run P w = .ok v w := fun w => by unfold zeroValue typeInfo; simp [hi, hv]
 have hfl := fill_of (place := fun i => some (i * sz, sz)) hq hf
 have hcells : (Array.map (fun x => v.cells[x % v.cells.size]!) (Array.range (n * sz))) = (List.map (fun x => z[x % z.length]!) (List.range (n * sz))).toArray := by
  apply Array.toList_inj.1; simp [hc]
 have hlim : ¬ (16777216 < n * sz) := by omega
 have h0 : ¬ (n * sz = 0) := by have := Nat.mul_pos hn0 hpos; omega
 rw [← hcells] at hfl;have hnn : n ≤ n * sz := Nat.le_mul_of_pos_right n hpos;refine doV_new (o := .cells ls.flatten.toArray e (0, 0)) (f := fun b => .slice (some ⟨b, 0, none⟩) n n) (fun w => ?_) fun b => ?_
 · have hne : (Instr.buildSlice t n ps.toArray).run P w = (do pure (.slice (some (← newRow e ls.flatten.toArray)) n n) : Sem Value).run P w := by
    unfold Instr.buildSlice;simp only [Sem.run_bind, Go.run_underlying hu, Result.andThen_ok, hisz, hlim, h0, if_false, hzv];simp [hfl]
   rw [hne];rfl
 · refine hk _ [_] ⟨hs, h1, .inr ⟨b, [], n, by rw [hn], by simp, by simp [hn], by omega, by omega⟩⟩
theorem len_row {t e n : Nat} {ty : TypeId} {a : Option Addr} {len cap : Nat} (ht : sliceOf P t e n = true) (hk : KR (.int .i64 (len : Nat))) : DoR P c (Builtin.len_ #[t] ty #[.slice a len cap]) h L KR := doR_pure (len_run ht) hk
end
end Go.Brd
namespace Go.Brd
def zeroV (P : Program) (t : TypeId) : Option Value := match P.info? t with
 | some i => i.zero
 | none => none
theorem zero1_of {P : Program} {t : TypeId} {z : Value} (h1 : zeroV P t = some z) (h2 : zeroIs P t 1 = true) (h3 : sizeIs P t 1 = true) (h4 : z.cells = #[z]) : zero1 P t z := by
 obtain ⟨i, z', hi, hz', _, hb, _⟩ := zeroIs_parts h2;unfold zeroV at h1;rw [hi] at h1;unfold sizeIs at h3;rw [hi] at h3;exact ⟨i, hi, h1, h4, Nat.eq_of_beq_eq_true h3, hb⟩
end Go.Brd
namespace Go.Brd
section
variable {P : Program} {c : World} {h : GH} {L : Own} {KR : Value → Prop}
theorem add_i64n {t : TypeId} {x y : Operand} {a b : Nat} (ha : a + b < 9223372036854775808) (hk : KR (.int .i64 ((a + b : Nat) : Int))) : DoR P c (eqG .add t x y (.int .i64 (a : Int)) (.int .i64 (b : Int))) h L KR :=
 qA (by unfold InI64; omega) hk
theorem mul_i64n {t : TypeId} {x y : Operand} {a b : Nat} (ha : a * b < 9223372036854775808) (hk : KR (.int .i64 ((a * b : Nat) : Int))) : DoR P c (eqG .mul t x y (.int .i64 (a : Int)) (.int .i64 (b : Int))) h L KR :=
 mul_i64 (by unfold InI64; have : (a : Int) * (b : Int) = ((a * b : Nat) : Int) := by norm_cast
             omega) hk
end
end Go.Brd
namespace Go.Brd
theorem len_os {P : Program} {c : World} {h : GH} {L : Own} {KR : Value → Prop} {t e n : Nat} {ty : TypeId} {E sz : Nat} {v : Value} {ls : List (List Value)} {N : Own} (ht : sliceOf P t e n = true) (s : OS E sz v ls N) (hk : KR (.int .i64 (ls.length : Nat))) : DoR P c (Builtin.len_ #[t] ty #[v]) h L KR := by
 rcases s.is with ⟨rfl, rfl, _⟩ | ⟨b, rest, cap, rfl, _⟩
 · exact doR_pure (len_run ht) hk
 · exact doR_pure (len_run ht) hk
end Go.Brd
namespace Go.Brd
section
variable {P : Program} {c : World} {h : GH} {L : Own} {KR : Value → Prop}
def u64of (n : Int) : Nat := (n % 18446744073709551616).toNat
theorem u64of_lt (n : Int) : u64of n < 18446744073709551616 := by unfold u64of; omega
theorem conv_u64w {s t : TypeId} {k0 : IntKind} {n : Int} (ht : intT P s t .u64 = true) (hk : KR (.int .u64 (u64of n : Nat))) : DoR P c (convert s t (.int k0 n)) h L KR :=
 doR_pure (v := .int .u64 (u64of n : Nat)) (fun w => by rw [run_convert_int ht, wrap_u64]; unfold u64of; congr 2; omega) hk
theorem shr_i64 {t : TypeId} {x y : Operand} {k' : IntKind} {a : Int} {n : Nat} (hn : n ≤ 64) (hk : KR (.int .i64 (a.fdiv (2 ^ n)))) : DoR P c (eqG .shr t x y (.int .i64 a) (.int k' (n : Int))) h L KR :=
 doR_pure (v := .int .i64 (a.fdiv (2 ^ n))) (fun w => by
  rw [eqG_int];have h0 : ¬ ((n : Int) < 0) := by omega
  show Sem.run P (Op.shift .shr .i64 a k' n) w = _;unfold Op.shift;simp only [h0, if_false, Int.toNat_natCast, Nat.min_eq_left (show n ≤ IntKind.i64.bits from hn)];rfl) hk
theorem shl_u64 {t : TypeId} {x y : Operand} {k' : IntKind} {a n : Nat} (hn : n ≤ 64) (hk : KR (.int .u64 ((a * 2 ^ n % 18446744073709551616 : Nat) : Int))) : DoR P c (eqG .shl t x y (.int .u64 (a : Int)) (.int k' (n : Int))) h L KR :=
 shl_nat hn (by rw [wrap_u64]; rfl) hk
theorem shl_u32 {t : TypeId} {x y : Operand} {k' : IntKind} {a n : Nat} (hn : n ≤ 32) (hk : KR (.int .u32 ((a * 2 ^ n % 4294967296 : Nat) : Int))) : DoR P c (eqG .shl t x y (.int .u32 (a : Int)) (.int k' (n : Int))) h L KR :=
 shl_nat hn (by rw [wrap_u32]; rfl) hk
end
end Go.Brd
namespace Go.Brd
section
variable {P : Program} {c : World} {h : GH} {L : Own} {K : Kont}
theorem zeroCells_one (z : Value) (n : Nat) : Builtin.zeroCells #[z] n = (List.replicate n [z]).flatten.toArray := by
 apply Array.toList_inj.1;unfold Builtin.zeroCells;simp only [List.size_toArray, List.length_cons, List.length_nil, Nat.zero_add, Nat.mul_one, Array.toList_map, Array.toList_range];apply List.ext_getElem
 · simp
 · intro i h1 h2
   have e : (List.replicate n [z]).flatten = List.replicate n z := by
    have := flat1 (List.replicate n z);rw [List.map_replicate] at this; exact this
   simp [e, Nat.mod_one]
theorem append_zeros {t xt e n : Nat} {kx : IntKind} {ty : TypeId} {v z : Value} {ls : List (List Value)} {N M : Own} (ht : sliceOf P t e 1 = true) (hxt : ∃ k, P.underlying xt = some (.int k)) (hz : zero1 P e z) (hz2 : zeroIs P e 1 = true) (hone : oneCell z = true) (hv : OS e 1 v ls N) (hL : L.Perm (N ++ M))
 (hn : ls.length + n ≤ 1073741824) (hk : ∀ v' N', OS e 1 v' (ls ++ List.replicate n [z]) N' → ∃ L'', (N' ++ M).Perm L'' ∧ K v' h L'') : DoV P c (Builtin.append_ #[t, xt] ty #[v, .int kx (n : Int)]) h L K := by
 refine DoV.after ?_;obtain ⟨hu, hsz, hpos⟩ := sliceOf_parts ht;obtain ⟨kxt, hux⟩ := hxt;obtain ⟨i, hi, hiz, hzc, hisz, hb1⟩ := hz;obtain ⟨i2, _, hi2, _, _, _, hb2⟩ := zeroIs_parts hz2;rw [hi] at hi2; cases hi2
 let xs : List (List Value) := List.replicate n [z]
 have hxl : xs.length = n := List.length_replicate;have hsizes : ∀ l ∈ ls ++ xs, l.length = 1 := fun l hl => (List.mem_append.1 hl).elim (hv.sizes l) (fun hl => by rw [List.eq_of_mem_replicate hl]; rfl)
 have hones : ∀ l ∈ ls ++ xs, l.all oneCell = true := fun l hl => (List.mem_append.1 hl).elim (hv.ones l) (fun hl => by rw [List.eq_of_mem_replicate hl]; simp [hone])
 have hzcells : Builtin.zeroCells z.cells n = xs.flatten.toArray := by rw [hzc]; exact zeroCells_one z n
 refine ⟨fun w s0 => ?_⟩;have s := Ghost.perm (h := h) hL c w s0;have hlx : xs.flatten.length = n * 1 := by rw [flatten_length (sz := 1) (fun l hl => by rw [List.eq_of_mem_replicate hl]; rfl), hxl]
 have hll : ls.flatten.length = ls.length * 1 := flatten_length hv.sizes
 have hzero0 : ∀ w1, (zeroValue e).run P w1 = .ok z w1 := fun w1 => by
  unfold zeroValue;rw [Sem.run_bind, run_info hi, Result.andThen_ok];simp only [hiz]; rfl
 have hwrap : IntKind.i64.wrap (n : Int) = (n : Int) := wrap_i64 (by unfold InI64; omega);have hneg : ¬ ((n : Int) < 0) := by omega
 have hbig : ¬ ((n : Int) * (i.bytes : Int) > 281474976710656) := by
  have h1 : n * i.bytes ≤ 1073741824 * 65536 := Nat.mul_le_mul (by omega) hb1;have h2 : ((n * i.bytes : Nat) : Int) ≤ ((1073741824 * 65536 : Nat) : Int) := by omega
  rw [Int.natCast_mul] at h2; omega
 have hint : ∀ (m : Int) (w1 : World), (asIntOf (.int kx m)).run P w1 = .ok (kx, m) w1 := fun _ _ => rfl
 have hbig2 : ¬ (281474976710656 < (n : Int) * (i.bytes : Int)) := hbig;have hw0 : IntKind.i64.wrap 0 = 0 := by decide
 have hzr : ∀ w1, ((do pure (Builtin.zeroCells (← zeroValue e).cells n) : Sem (Array Value))).run P w1 = .ok xs.flatten.toArray w1 := fun w1 => by rw [Sem.run_bind, hzero0, Result.andThen_ok, hzcells]; rfl
 obtain ⟨base, scap, hve, hcases⟩ : ∃ base scap, v = .slice base ls.length scap ∧ ((base = none ∧ scap = 0 ∧ ls = [] ∧ N = []) ∨ ∃ b rest, base = some ⟨b, 0, none⟩ ∧ N = [(b, .cells (ls.flatten ++ rest).toArray e (0, 0))] ∧ scap * 1 = ls.length * 1 + rest.length ∧ ls.length ≤ scap ∧ scap < 2 ^ 63) := by
  rcases hv.is with ⟨rfl, rfl, rfl⟩ | ⟨b, rest, cap, rfl, hN, hc, hle, hc2⟩
  · exact ⟨none, 0, rfl, .inl ⟨rfl, rfl, rfl, rfl⟩⟩
  · exact ⟨_, cap, rfl, .inr ⟨b, rest, rfl, hN, hc, hle, hc2⟩⟩
 have hzero : ∀ w1, (zeroValue e).run P w1 = .ok z w1 := fun w1 => by
  unfold zeroValue;rw [Sem.run_bind, run_info hi, Result.andThen_ok];simp only [hiz]; rfl
 have happ : ∀ w1, (if n * 1 = 0 then pure #[] else (do pure (Builtin.zeroCells (← zeroValue e).cells n) : Sem (Array Value))).run P w1 = .ok xs.flatten.toArray w1 := fun w1 => by
  split
  · have : n = 0 := by omega
    subst this; rfl
  · rw [Sem.run_bind, hzero, Result.andThen_ok, hzcells]; rfl
 by_cases hfit : ls.length + n ≤ scap
 · rcases hcases with ⟨rfl, rfl, rfl, rfl⟩ | ⟨b, rest, rfl, rfl, hc, hle, hc2⟩
   · have hn0 : n = 0 := by simpa using hfit
     subst hn0;have hx0 : xs = [] := rfl;obtain ⟨L2, hp2, hk2⟩ := hk (.slice none 0 0) [] (by simpa using OS.nil e 1);refine ⟨.slice none 0 0, w, h, _, ?_, GH.le_refl h, s, L2, hp2, hk2⟩;subst hve;have := happ w;simp [Builtin.append_, Go.run_underlying hu, Go.run_underlying hux, sizeOf, typeInfo, hi, hisz, asInt, hint, hw0]
   · have hroom : xs.flatten.length ≤ rest.length := by rw [hlx]; omega
     obtain ⟨w', hr, s2⟩ := run_storeCells (P := P) (ls.length * 1) xs.flatten 0 (ls.flatten ++ rest) w s (by simp only [List.length_append, hll]; omega) (fun j _ _ hh => by simp at hh) (fun u hu => by
      obtain ⟨l, hl, hul⟩ := List.mem_flatten.1 hu;exact List.all_eq_true.1 (hones l (List.mem_append_right _ hl)) u hul)
     have hover : over (ls.flatten ++ rest) (ls.length * 1 + 0) xs.flatten = (ls ++ xs).flatten ++ rest.drop xs.flatten.length := by
      have : rest = rest.take xs.flatten.length ++ rest.drop xs.flatten.length := (List.take_append_drop _ _).symm
      conv => lhs; rw [this]
      rw [Nat.add_zero, ← hll, over_append _ _ _ _ (by rw [List.length_take, Nat.min_eq_left hroom])];simp [List.flatten_append]
     rw [hover] at s2;obtain ⟨L2, hp2, hk2⟩ := hk (.slice (some ⟨b, 0, none⟩) (ls.length + n) scap) [(b, .cells ((ls ++ xs).flatten ++ rest.drop xs.flatten.length).toArray e (0, 0))] ⟨hsizes, hones, .inr ⟨b, _, scap, by simp, rfl, by simp only [List.length_append, List.length_drop, hlx, List.length_replicate]; omega, by simpa using hfit, hc2⟩⟩;refine ⟨_, w', h, _, ?_, GH.le_refl h, s2, L2, hp2, hk2⟩;subst hve;have ha := happ w;simp only [Nat.mul_one] at ha hr;simp [Builtin.append_, Go.run_underlying hu, Go.run_underlying hux, sizeOf, typeInfo, hi, hisz, asInt, hint, hwrap, hneg, hbig2, hfit, ha, addr_add];have hr2 : (storeCells ⟨b, ls.length, none⟩ xs.flatten).run P w = .ok () w' := hr;by_cases hn0 : n = 0
     · subst hn0
       have e0 : xs.flatten = [] := rfl;rw [e0] at hr2;simp [hr2]
     · simp [hn0, hzero0, hzcells, hr2]
 ·
  let q : Question := .appendCap (ls.length + n) scap e
  obtain ⟨nc, hnc, hn1, hn2⟩ : ∃ nc, nc = q.cut (w.tape w.drawn q) ∧ ls.length + n ≤ nc ∧ nc < 2 ^ 63 := by
   refine ⟨_, rfl, ?_, ?_⟩
   · show _ ≤ _ + _; omega
   · show ls.length + n + w.tape w.drawn q % (2 ^ 63 - (ls.length + n)) < 2 ^ 63
     have : w.tape w.drawn q % (2 ^ 63 - (ls.length + n)) < 2 ^ 63 - (ls.length + n) := Nat.mod_lt _ (by omega);omega
  have hcap : ¬ (281474976710656 < Builtin.nextslicecap (ls.length + n) scap * i.bytes) := by
   have h1 := nextslicecap_le (n := ls.length + n) (old := scap) (by omega);have h2 : Builtin.nextslicecap (ls.length + n) scap * i.bytes ≤ (2 * (ls.length + n) + 1000) * 65536 := Nat.mul_le_mul h1 hb1;omega
  let w1 : World := { w with drawn := w.drawn + 1 }
  have s1 : St c h (N ++ M) w1 := s.draw
  have hfs : (Builtin.firstCells 1 ls.length v).run P w1 = .ok ls.flatten.toArray w1 := by
   rcases hcases with ⟨rfl, rfl, rfl, rfl⟩ | ⟨b, rest, rfl, rfl, hc, hle, hc2⟩
   · rw [hve]; rfl
   · rw [hve]; exact run_firstCells_own (rest := rest) (E := e) (fr := (0, 0)) (s1.own b _ (by simp)) hll
  let zs := Builtin.zeroCells z.cells (nc - (ls.length + n))
  have hzs : zs.size = nc - (ls.length + n) := by simp [zs, Builtin.zeroCells, hzc]
  have hroom : (askRoom (nc * i.bytes)).run P w1 = .ok () w1 := by unfold askRoom; split <;> rfl
  have sN : St c h ((w1.heap.size, .cells ((ls ++ xs).flatten ++ zs.toList).toArray e (0, 0)) :: M) { w1 with heap := w1.heap.push (.cells ((ls ++ xs).flatten ++ zs.toList).toArray e) } := by
   have := s1.alloc (.cells ((ls ++ xs).flatten ++ zs.toList).toArray e (0, 0));exact qh (List.Sublist.cons_cons _ (List.sublist_append_right N M)) c _ this
  obtain ⟨L2, hp2, hk2⟩ := hk (.slice (some ⟨w1.heap.size, 0, none⟩) (ls.length + n) nc) [(w1.heap.size, .cells ((ls ++ xs).flatten ++ zs.toList).toArray e (0, 0))] ⟨hsizes, hones, .inr ⟨w1.heap.size, zs.toList, nc, by simp, rfl, by simp only [List.length_append, Array.length_toList, hzs, List.length_replicate]; omega, by simpa using hn1, hn2⟩⟩;refine ⟨_, _, h, _, ?_, GH.le_refl h, sN, L2, hp2, hk2⟩;have h63' : ¬ (9223372036854775807 < ((ls.length : Int) + (n : Int))) := by omega
  have hq : (Question.appendCap (ls.length + n) scap e).forced = false := rfl;have hnc' : (Question.appendCap (ls.length + n) scap e).cut (w.tape w.drawn (Question.appendCap (ls.length + n) scap e)) = nc := hnc.symm;have hdrew : w.drew = w1 := rfl;rw [hve] at hfs ⊢;have ha := happ w1;simp only [Nat.mul_one] at ha;simp [Builtin.append_, Go.run_underlying hu, Go.run_underlying hux, sizeOf, typeInfo, hi, hisz, asInt, hint, hwrap, hneg, hbig2, hfit, h63', hcap, hq, hnc', hdrew, hfs, hroom, hzero0, newRow, newObj]
  have hc2 : ∀ (x : Array Value), x = xs.flatten.toArray → ls.flatten.toArray ++ (x ++ Builtin.zeroCells z.cells (nc - (ls.length + n))) = (ls.flatten ++ (xs.flatten ++ zs.toList)).toArray := by
   intro x hx; subst hx;apply Array.toList_inj.1; simp [zs]
  by_cases hn0 : n = 0
  · exfalso
    rcases hcases with ⟨_, _, e0, _⟩ | ⟨_, _, _, _, _, hle, _⟩
    · subst e0; subst hn0; simp at hfit
    · omega
  · simp [hn0]
    rw [hc2 _ hzcells];rfl
variable {KR : Value → Prop}
theorem sliceNil_hi {t e sz : Nat} {k : IntKind} {n : Int} (ht : sliceOf P t e sz = true) (hn : (0 : Int) = n) (hk : KR (.slice none 0 0)) : DoR P c (Instr.sliceAt t (.slice none 0 0) none (some (.int k n)) none) h L KR := by
 obtain ⟨hu, hsi, _⟩ := sliceOf_parts ht;subst hn;refine doR_pure (v := .slice none 0 0) (fun w => ?_) hk;have hsz := run_sizeOf hsi w;simp [Instr.sliceAt, Instr.slice, Go.run_underlying hu, Instr.sliceBounds, Instr.sliceBound, asIntOf, hsz]
theorem sliceB_hi {t e sz b off len cap hi : Nat} {k : IntKind} {n : Int} (ht : sliceOf P t e sz = true) (hn : (hi : Int) = n) (hle : hi ≤ cap) (hk : KR (.slice (some ⟨b, off, none⟩) hi cap)) : DoR P c (Instr.sliceAt t (.slice (some ⟨b, off, none⟩) len cap) none (some (.int k n)) none) h L KR := by
 obtain ⟨hu, hsi, _⟩ := sliceOf_parts ht;subst hn;refine doR_pure (v := .slice (some ⟨b, off, none⟩) hi cap) (fun w => ?_) hk;have hsz := run_sizeOf hsi w;simp [Instr.sliceAt, Instr.slice, Go.run_underlying hu, Instr.sliceBounds, run_sliceBound, hsz, show (hi : Int) ≤ cap by omega, addr_add]
theorem sliceB_lo {t e sz b off len cap lo : Nat} {k : IntKind} {n : Int} (ht : sliceOf P t e sz = true) (hn : (lo : Int) = n) (hle : lo ≤ len) (hk : KR (.slice (if cap = lo then some ⟨b, off, none⟩ else some ⟨b, off + lo * sz, none⟩) (len - lo) (cap - lo))) : DoR P c (Instr.sliceAt t (.slice (some ⟨b, off, none⟩) len cap) (some (.int k n)) none none) h L KR := by
 obtain ⟨hu, hsi, _⟩ := sliceOf_parts ht;subst hn;refine doR_pure (v := .slice (if cap = lo then some ⟨b, off, none⟩ else some ⟨b, off + lo * sz, none⟩) (len - lo) (cap - lo)) (fun w => ?_) hk;have hsz := run_sizeOf hsi w;simp [Instr.sliceAt, Instr.slice, Go.run_underlying hu, Instr.sliceBounds, run_sliceBound, hsz, hle, addr_add]
theorem sliceB_lohi {t e sz b off len cap lo hi : Nat} {k k' : IntKind} {n m : Int} (ht : sliceOf P t e sz = true) (hn : (lo : Int) = n) (hm : (hi : Int) = m) (h1 : lo ≤ hi) (hle : hi ≤ cap) (hk : KR (.slice (if cap = lo then some ⟨b, off, none⟩ else some ⟨b, off + lo * sz, none⟩) (hi - lo) (cap - lo))) : DoR P c (Instr.sliceAt t (.slice (some ⟨b, off, none⟩) len cap) (some (.int k n)) (some (.int k' m)) none) h L KR := by
 obtain ⟨hu, hsi, _⟩ := sliceOf_parts ht;subst hn; subst hm;refine doR_pure (v := .slice (if cap = lo then some ⟨b, off, none⟩ else some ⟨b, off + lo * sz, none⟩) (hi - lo) (cap - lo)) (fun w => ?_) hk;have hsz := run_sizeOf hsi w;simp [Instr.sliceAt, Instr.slice, Go.run_underlying hu, Instr.sliceBounds, run_sliceBound, hsz, h1, show (hi : Int) ≤ cap by omega, addr_add]
theorem cap_c {t e n : Nat} {ty : TypeId} {a : Option Addr} {len cap : Nat} (ht : sliceOf P t e n = true) (hk : KR (.int .i64 (cap : Nat))) : DoR P c (Builtin.cap_ #[t] ty #[.slice a len cap]) h L KR := by
 obtain ⟨hu, _, _⟩ := sliceOf_parts ht;refine doR_pure (v := .int .i64 (cap : Nat)) (fun w => ?_) hk;unfold Builtin.cap_;simp [Go.run_underlying hu, goInt]
end
end Go.Brd
namespace Go.Brd
theorem all5 {α : Type} {p : α → Prop} {a b c d e : α} (h1 : p a) (h2 : p b) (h3 : p c) (h4 : p d) (h5 : p e) : ∀ x ∈ [a, b, c, d, e], p x := by simpa using ⟨h1, h2, h3, h4, h5⟩
structure RBss (h : GH) (v : Value) (ps : List (Value × List UInt8)) : Prop where
 sl : Sl h v 1 (ps.map fun p => [p.1])
 each : ∀ p ∈ ps, RBytes h p.1 p.2
theorem RBss.mono {h h' : GH} {v : Value} {ps : List (Value × List UInt8)} (hle : GH.le h h') (r : RBss h v ps) : RBss h' v ps := ⟨r.sl.mono hle, fun p hp => (r.each p hp).mono hle⟩
end Go.Brd
namespace Go.Brd
theorem load_aggT {P : Program} {c : World} {h : GH} {L : Own} {KR : Value → Prop} {t n : Nat} {p : Value} {l : List Value} (ht : aggN P t n = true) (ha : At h p l) (hn : n ≤ l.length) (hk : KR (.agg (l.take n).toArray)) : DoR P c (Instr.loadAt t p) h L KR := load_agg ht ha hn hk
end Go.Brd
namespace Go.Brd
theorem slice_ptr {P : Program} {c : World} {h : GH} {L : Own} {KR : Value → Prop} {t m e n b off : Nat} (ht : arrayOf P t m e n = true) (hk : KR (.slice (some ⟨b, off, none⟩) m m)) : DoR P c (Instr.sliceAt t (.pointer (some ⟨b, off, none⟩)) none none none) h L KR := by
 obtain ⟨hu, hsi⟩ := arrayOf_parts ht;refine doR_pure (v := .slice (some ⟨b, off, none⟩) m m) (fun w => ?_) hk;have hsz := run_sizeOf hsi w;by_cases h0 : m = 0 <;> simp [Instr.sliceAt, Go.run_underlying hu, Instr.sureAddr, Instr.sliceBounds, hsz, h0, addr_add]
theorem Sl.ofBox {h : GH} {b E : Nat} {x : ID} (hb : h b = some (.cells (idC x).toArray E (0, 0))) (hx : x.length = 32) : RBytes h (.slice (some ⟨b, 0, none⟩) 32 32) x := by
 refine ⟨?_, ?_, by simp [hx], _, 32, by simp [hx], by simp [hx], by decide, .inr ⟨b, 0, _, rfl, hb, ?_⟩⟩
 · intro l hl; obtain ⟨y, _, rfl⟩ := List.mem_map.1 hl; rfl
 · intro l hl; obtain ⟨y, _, rfl⟩ := List.mem_map.1 hl; rfl
 · have e : (x.map u8C).flatten = idC x := by
    have := flat1 (x.map u8V);rw [List.map_map] at this; exact this
   rw [e]; exact CellsAt.all _ _ _
end Go.Brd
namespace Go.Brd
theorem fitsL_items {ks : List CK} : ∀ {n : Nat} {cs : List Value}, fitsL (List.replicate n ks).flatten cs = true → ∀ j, j < n → fitsL ks ((cs.drop (j * ks.length)).take ks.length) = true ∧ j * ks.length + ks.length ≤ cs.length
 | 0, _, _, j, hj => by omega
 | n + 1, cs, h, j, hj => by
  simp only [List.replicate_succ, List.flatten_cons] at h;have hl := fitsL_len h;obtain ⟨a1, a2⟩ := fitsL_append h;cases j with
  | zero =>
   simp only [Nat.zero_mul, List.drop_zero, Nat.zero_add];refine ⟨a1, ?_⟩;rw [hl, List.length_append]; omega
  | succ j =>
   obtain ⟨b1, b2⟩ := fitsL_items a2 j (by omega);rw [List.drop_drop] at b1;rw [List.length_drop] at b2;rw [Nat.add_mul, Nat.one_mul];refine ⟨by rw [Nat.add_comm]; exact b1, ?_⟩;have : ks.length ≤ cs.length := by rw [hl, List.length_append]; omega
   omega
structure FieldFits (P : Program) (d : Nat) (cs : List Value) (f : Field) : Prop where
 nm : f.name ≠ "_"
 sh : ∃ ks i, shp P d f.type = some ks ∧ P.info? f.type = some i ∧ i.size = ks.length ∧ fitsL ks ((cs.drop f.offset).take ks.length) = true ∧ f.offset + ks.length ≤ cs.length
theorem fieldFits_all {P : Program} {d : Nat} {cs : List Value} : ∀ (fs : List Field) (off : Nat) (ks : List CK), shpF P d fs off = some ks → cs.length = off + ks.length → fitsL ks (cs.drop off) = true → ∀ f ∈ fs, FieldFits P d cs f
 | [], _, _, _, _, _, f, hf => by simp at hf
 | g :: fs, off, ks, h, h1, f1, f, hf => by
  simp only [shpFs] at h;split at h
  · cases h
  · rename_i hno
    have hnm : g.name ≠ "_" := fun e => hno (.inl e)
    have hoff : g.offset = off := by rcases Nat.decEq g.offset off with e | e; exact (hno (.inr e)).elim; exact e
    split at h
    · rename_i k1 i hk1 hi
      split at h
      · rename_i hsz
        cases hr : shpFs P (shp P d) fs (off + k1.length) with
        | none => rw [hr] at h; cases h
        | some k2 =>
         rw [hr] at h;simp only [Option.map_some, Option.some.injEq] at h;subst h;simp only [List.length_append] at h1;obtain ⟨a1, a2⟩ := fitsL_append f1;rcases List.mem_cons.1 hf with rfl | hf
         · exact ⟨hnm, k1, i, hk1, hi, hsz, by rw [hoff]; exact a1, by rw [hoff]; omega⟩
         · rw [List.drop_drop] at a2
           exact fieldFits_all fs (off + k1.length) k2 hr (by omega) a2 f hf
      · cases h
    · cases h
section
variable {P : Program}
def ChkT (P : Program) (d : Nat) : Prop := ∀ (t : TypeId) (ks : List CK), shp P d t = some ks → ∀ (em : Bool) (D : Nat), d ≤ D → ∀ (cs : List Value), fitsL ks cs = true → ∀ w, (Instr.checkKey em D t (pack P t cs)).run P w = .ok () w
theorem chkT_all : ∀ d, ChkT P d := by
 intro d
 induction d with
 | zero => intro t ks h; simp [shp] at h
 | succ d ih =>
  intro t ks h em D hD cs f1 w;obtain ⟨D, rfl⟩ : ∃ D', D = D' + 1 := ⟨D - 1, by omega⟩;simp only [shp] at h;have hl1 := fitsL_len f1;cases hu : P.underlying t with
  | none => rw [hu] at h; cases h
  | some x =>
   rw [hu] at h
   have flat : (match x with | .int _ => true | .string => true | .bool => true | _ => false) = true → (Instr.checkKey em (D + 1) t (pack P t cs)).run P w = .ok () w := by
    intro hx;rw [Instr.checkKey];simp only [Sem.run_bind, Go.run_underlying hu, Result.andThen_ok];cases x <;> simp at hx <;> rfl
   cases x with
   | int k => exact flat rfl
   | string => exact flat rfl
   | bool => exact flat rfl
   | array n e =>
    have hp : isAggT P t = true := by unfold isAggT; rw [hu]
    simp only at h;cases hk : shp P d e with
    | none => rw [hk] at h; cases h
    | some k1 =>
     cases hi : P.info? e with
     | none => rw [hk, hi] at h; cases h
     | some i =>
      rw [hk, hi] at h;simp only at h;split at h
      · rename_i hsz
        simp only [Option.some.injEq] at h; subst h;unfold pack; rw [hp];simp only [if_true];rw [Instr.checkKey];simp only [Sem.run_bind, Go.run_underlying hu, Result.andThen_ok];simp only [Std.Legacy.Range.forIn_eq_forIn_range', Std.Legacy.Range.size, Nat.sub_zero, Nat.add_one_sub_one, Nat.div_one]
        have each : ∀ j ∈ List.range' 0 n, fitsL k1 ((cs.drop (j * k1.length)).take k1.length) = true ∧ j * k1.length + k1.length ≤ cs.length := fun j hj => by
         rw [List.mem_range'_1] at hj;exact fitsL_items f1 j (by omega)
        generalize List.range' 0 n = is at each
        induction is with
        | nil => simp
        | cons j is ih2 =>
         obtain ⟨e1, e2⟩ := each j (by simp);have p1 := run_part_pack (cs := cs) (off := j * k1.length) hi hsz (fun h => shp_scalar hk h) (shp_under hk) e2 w;have p2 := ih e k1 hk em D (by omega) _ e1 w;simp only [List.forIn_cons, Sem.run_bind, Go.run_sizeOf w hi, Result.andThen_ok];have hc : P.cellsOf e = k1.length := by unfold Program.cellsOf; rw [hi]; exact hsz
         rw [hc];simp only [p1, p2, Result.andThen_ok, Sem.run_pure];exact ih2 (fun y hy => each y (by simp [hy]))
      · cases h
   | struct fs =>
    have hp : isAggT P t = true := by unfold isAggT; rw [hu]
    simp only at h;split at h
    · cases h
    · rename_i hst
      unfold pack; rw [hp];simp only [if_true];rw [Instr.checkKey];simp only [Sem.run_bind, Go.run_underlying hu, Result.andThen_ok];rw [← Array.forIn_toList];have each := fieldFits_all fs.toList 0 ks h (by simpa using hl1) (by simpa using f1)
      generalize fs.toList = L at each
      induction L with
      | nil => simp
      | cons f L ih2 =>
       obtain ⟨hn, k1, i, hk, hi, hsz, e1, e2⟩ := each f (by simp);have p1 := run_part_pack (cs := cs) (off := f.offset) hi hsz (fun h => shp_scalar hk h) (shp_under hk) e2 w;have p2 := ih f.type k1 hk em D (by omega) _ e1 w;simp only [List.forIn_cons, Sem.run_bind, hn, ne_eq, not_false_eq_true, if_true, Result.andThen_ok, p1, p2, Sem.run_pure];exact ih2 (fun y hy => each y (by simp [hy]))
   | _ => cases h
end
theorem ba_refl (a : ByteArray) : (a == a) = true := by
 show ByteArray.beq a a = true;obtain ⟨d⟩ := a;simp [ByteArray.beq]
theorem sameBits_cell : ∀ (n : Nat) (k : CK) (v : Value), fits k v = true → Instr.sameBits n v v = true
 | _, .i k, .int k' a, h => by unfold Instr.sameBits; simp
 | _, .s, .string a, h => by unfold Instr.sameBits; exact ba_refl a
 | _, .b, .bool a, h => by unfold Instr.sameBits; simp
theorem sameBits_pack {P : Program} {t : TypeId} {ks : List CK} {cs : List Value} (n : Nat) (hf : fitsL ks cs = true) (h1 : isAggT P t = false → ks.length = 1) : Instr.sameBits (n + 1) (pack P t cs) (pack P t cs) = true := by
 have all : ∀ (ks : List CK) (cs : List Value), fitsL ks cs = true → ∀ v ∈ cs, Instr.sameBits n v v = true := by
  intro ks
  induction ks with
  | nil => intro cs hf v hv; cases cs with
   | nil => simp at hv
   | cons a b => cases hf
  | cons k ks ih => intro cs hf v hv; cases cs with
   | nil => cases hf
   | cons a b =>
    simp only [fitsL, Bool.and_eq_true] at hf;rcases List.mem_cons.1 hv with rfl | hv
    · exact sameBits_cell n k v hf.1
    · exact ih b hf.2 v hv
 unfold pack;split
 · unfold Instr.sameBits
   simp only [beq_self_eq_true, Bool.true_and];rw [List.all_eq_true];rintro ⟨x, y⟩ hxy
   have hz : ∀ (l : List Value) (p : Value × Value), p ∈ l.zip l → p.1 = p.2 ∧ p.1 ∈ l := by
    intro l
    induction l with
    | nil => intro p hp; simp at hp
    | cons a l ih => intro p hp; simp only [List.zip_cons_cons, List.mem_cons] at hp; rcases hp with rfl | hp
                     · simp
                     · have := ih p hp; exact ⟨this.1, by simp [this.2]⟩
   have := hz _ _ hxy;simp only at this;obtain ⟨rfl, hm⟩ := this;exact all ks cs hf x (by simpa using hm)
 · rename_i hb
   have hl := fitsL_len hf;have h2 := h1 (by simpa using hb);rw [h2] at hl
   match cs, ks, hf, h2 with
   | [a], k :: [], hf, _ =>
    exact sameBits_cell (n + 1) k a (by simpa [fitsL] using hf : fits k a = true)
   | [a], k :: _ :: _, hf, hl => simp at hl
def mEnt : Nat → List (Value × Value) → List MapEntry
 | _, [] => []
 | j, (a, b) :: r => { key := a, val := b, born := j } :: mEnt (j + 1) r
def mapO (m : List (Value × Value)) : Obj := .map (mEnt 0 m).toArray m.length
theorem mEnt_length : ∀ (j : Nat) (m : List (Value × Value)), (mEnt j m).length = m.length
 | _, [] => rfl
 | j, _ :: r => by simp [mEnt, mEnt_length (j + 1) r]
theorem mEnt_get : ∀ (j : Nat) (m : List (Value × Value)) (i : Nat), (mEnt j m)[i]? = m[i]?.map fun p => { key := p.1, val := p.2, born := j + i }
 | _, [], _ => by simp [mEnt]
 | j, (a, b) :: r, 0 => by simp [mEnt]
 | j, (a, b) :: r, i + 1 => by simp only [mEnt, List.getElem?_cons_succ, mEnt_get (j + 1) r i]; congr 1; funext p; congr 1; omega
theorem mEnt_snoc : ∀ (j : Nat) (m : List (Value × Value)) (a b : Value), mEnt j (m ++ [(a, b)]) = mEnt j m ++ [{ key := a, val := b, born := j + m.length }]
 | j, [], a, b => by simp [mEnt]
 | j, (x, y) :: r, a, b => by simp only [List.cons_append, mEnt, mEnt_snoc (j + 1) r a b, List.length_cons]; congr 4; omega
theorem mEnt_set : ∀ (j : Nat) (m : List (Value × Value)) (i : Nat) (a b : Value), (mEnt j m).modify i (fun e => { e with key := a, val := b }) = mEnt j (m.set i (a, b))
 | _, [], i, a, b => by simp [mEnt]
 | j, (x, y) :: r, 0, a, b => by simp [mEnt]
 | j, (x, y) :: r, i + 1, a, b => by simp only [mEnt, List.modify_succ_cons, List.set_cons_succ, mEnt_set (j + 1) r i a b]
section
variable {κ β : Type} [DecidableEq κ]
def mget (k : κ) : List (κ × β) → Nat → Option (Nat × β)
 | [], _ => none
 | (a, b) :: r, i => if k = a then some (i, b) else mget k r (i + 1)
def mset (k : κ) (v : β) : List (κ × β) → List (κ × β)
 | [] => [(k, v)]
 | (a, b) :: r => if k = a then (k, v) :: r else (a, b) :: mset k v r
theorem mget_some {k : κ} : ∀ {m : List (κ × β)} {i j : Nat} {v : β}, mget k m i = some (j, v) → i ≤ j ∧ m[j - i]? = some (k, v)
 | [], _, _, _, h => by cases h
 | (a, b) :: r, i, j, v, h => by
  unfold mget at h;split at h
  · rename_i e; cases h; subst e; simp
  · obtain ⟨h1, h2⟩ := mget_some h
    refine ⟨by omega, ?_⟩;rw [show j - i = (j - (i + 1)) + 1 by omega]; simpa using h2
theorem mget_lookup {k : κ} : ∀ {m : List (κ × β)} {i : Nat}, (mget k m i).map Prod.snd = m.lookup k
 | [], _ => rfl
 | (a, b) :: r, i => by
  unfold mget List.lookup;by_cases e : k = a
  · subst e; simp
  · have : (k == a) = false := by simpa using e
    simp only [if_neg e, this]; exact mget_lookup
theorem mget_none {k : κ} : ∀ {m : List (κ × β)} {i : Nat}, mget k m i = none ↔ k ∉ m.map Prod.fst
 | [], _ => by simp [mget]
 | (a, b) :: r, i => by
  unfold mget;by_cases e : k = a
  · simp [e]
  · simp only [if_neg e, List.map_cons, List.mem_cons, e, false_or]; exact mget_none
theorem mset_snoc {k : κ} {v : β} : ∀ {m : List (κ × β)} {i : Nat}, mget k m i = none → mset k v m = m ++ [(k, v)]
 | [], _, _ => rfl
 | (a, b) :: r, i, h => by
  unfold mget at h;split at h
  · cases h
  · rename_i e; unfold mset; rw [if_neg e, mset_snoc h]; rfl
theorem mset_set {k : κ} {v : β} : ∀ {m : List (κ × β)} {i j : Nat} {u : β}, mget k m i = some (j, u) → mset k v m = m.set (j - i) (k, v)
 | [], _, _, _, h => by cases h
 | (a, b) :: r, i, j, u, h => by
  unfold mget at h;split at h
  · rename_i e; cases h; unfold mset; rw [if_pos e]; simp
  · rename_i e
    have := (mget_some h).1;unfold mset; rw [if_neg e, mset_set h, show j - i = (j - (i + 1)) + 1 by omega]; rfl
theorem mset_lookup {k x : κ} {v : β} : ∀ {m : List (κ × β)}, (mset k v m).lookup x = if x = k then some v else m.lookup x
 | [] => by
  unfold mset List.lookup;by_cases e : x = k
  · simp [e]
  · have : (x == k) = false := by simpa using e
    simp [this, e]
 | (a, b) :: r => by
  unfold mset;by_cases e : k = a
  · rw [if_pos e]; subst e
    unfold List.lookup;by_cases e2 : x = k
    · simp [e2]
    · have : (x == k) = false := by simpa using e2
      simp [this, e2]
  · rw [if_neg e]
    unfold List.lookup;by_cases e2 : x = a
    · subst e2
      have : ¬ x = k := fun e3 => e e3.symm
      simp [this]
    · have : (x == a) = false := by simpa using e2
      simp only [this]; exact mset_lookup
theorem mset_keys {k : κ} {v : β} {m : List (κ × β)} : (mset k v m).map Prod.fst = if k ∈ m.map Prod.fst then m.map Prod.fst else m.map Prod.fst ++ [k] := by
 induction m with
 | nil => simp [mset]
 | cons p r ih =>
  obtain ⟨a, b⟩ := p;unfold mset;by_cases e : k = a
  · subst e; simp
  · rw [if_neg e]
    simp only [List.map_cons, ih, List.mem_cons, e, false_or];split <;> simp
end
def mapV {κ β : Type} (P : Program) (t : TypeId) (kf : κ → List Value) (vf : β → Value) (m : List (κ × β)) : List (Value × Value) := m.map fun p => (pack P t (kf p.1), vf p.2)
structure KeyT {κ : Type} (P : Program) (t : TypeId) (ks : List CK) (kf : κ → List Value) (ok : κ → Prop) : Prop where
 shp : shp P 20 t = some ks
 agg : isAggT P t = true
 fit : ∀ x, ok x → fitsL ks (kf x) = true
 inj : ∀ x y, ok x → ok y → kf x = kf y → x = y
section
variable {P : Program} {κ β : Type} [DecidableEq κ] {t : TypeId} {ks : List CK} {kf : κ → List Value} {vf : β → Value} {ok : κ → Prop}
theorem run_findKey_agg (hk : KeyT P t ks kf ok) {k : κ} (hok : ok k) : ∀ (m : List (κ × β)) (j i : Nat), (∀ p ∈ m, ok p.1) → ∀ w,
 (Instr.findAsking t (pack P t (kf k)) (mEnt j (mapV P t kf vf m)) i).run P w = .ok ((mget k m i).map fun p => (p.1, vf p.2)) w
 | [], j, i, _, w => by simp [mapV, mEnt, Instr.findAsking, mget, Sem.run, pure]
 | (a, b) :: r, j, i, hm, w => by
  have ha := hm (a, b) (by simp);simp only [mapV, List.map_cons, mEnt];unfold Instr.findAsking;have heq := eqT_all (P := P) 20 t ks hk.shp 10000 (by decide) (kf k) (kf a) (hk.fit k hok) (hk.fit a ha) w;have heq' : (Op.equal t (pack P t (kf k)) (pack P t (kf a))).run P w = .ok (csEq (kf k) (kf a)) w := heq;rw [Sem.run_bind, heq', Result.andThen_ok];have hiff := csEq_iff (hk.fit k hok) (hk.fit a ha);unfold mget;by_cases e : k = a
  · have : csEq (kf k) (kf a) = true := hiff.2 (by rw [e])
    rw [this, if_pos e]; rfl
  · have : csEq (kf k) (kf a) = false := by
     cases hb : csEq (kf k) (kf a) with
     | false => rfl
     | true => exact (e (hk.inj k a hok ha (hiff.1 hb))).elim
    rw [this, if_neg e];exact run_findKey_agg hk hok r (j + 1) (i + 1) (fun p hp => hm p (by simp [hp])) w
theorem run_findKey_map (hk : KeyT P t ks kf ok) {k : κ} (hok : ok k) (m : List (κ × β)) (hm : ∀ p ∈ m, ok p.1) (w : World) :
 (Instr.findKey t (pack P t (kf k)) (mEnt 0 (mapV P t kf vf m))).run P w = .ok ((mget k m 0).map fun p => (p.1, vf p.2)) w := by
 rw [run_findKey_eq w (k := t) (by
  have := hk.agg; unfold isAggT at this;cases hu : P.underlying t with
  | none => rw [hu] at this; cases this
  | some d => rw [hu] at this; cases d <;> first | rfl | cases this)]
 exact run_findKey_agg hk hok m 0 0 hm w
end
def Has (h : GH) (L : Own) (b : Nat) (o : Obj) : Prop := h b = some o ∨ (b, o) ∈ L
theorem Has.get {c : World} {h h' : GH} {Lr L : Own} {b : Nat} {o : Obj} {w : World} (hs : Has h Lr b o) (hle : GH.le h h') (hL : ∀ e ∈ Lr, e ∈ L) (s : St c h' L w) : w.heap[b]? = some o :=
 hs.elim (fun e => s.gh b o (hle b o e)) (fun e => s.own b o (hL _ e))
section
variable {P : Program} {c : World} {h : GH} {L : Own} {K : Kont} {KR : Value → Prop} {κ β : Type} [DecidableEq κ] {ks : List CK} {kf : κ → List Value} {vf : β → Value} {ok : κ → Prop} {t kt et : TypeId}
theorem run_getMap {w : World} {r : Nat} {m : List (Value × Value)} (hb : w.heap[r]? = some (mapO m)) : (getObj r).run P w = .ok (.map (mEnt 0 m).toArray m.length) w :=
 run_getObj (fun _ _ _ h => by cases h) hb
theorem lookup_map {b : Nat} {m : List (κ × β)} {k : κ} {z : Value} {cm : Bool} (ht : P.underlying t = some (.map kt et)) (hk : KeyT P kt ks kf ok) (hok : ok k) (hm : ∀ p ∈ m, ok p.1) (hz : zeroV P et = some z)
 (hh : Has h L b (mapO (mapV P kt kf vf m)))
 (hs : ∀ i v, mget k m 0 = some (i, v) → KR (if cm then .tuple #[vf v, .bool true] else vf v)) (hn : mget k m 0 = none → KR (if cm then .tuple #[z, .bool false] else z)) :
 DoR P c (Instr.lookup t (.map (some b)) (pack P kt (kf k)) cm) h L KR := by
 have run : ∀ w, w.heap[b]? = some (mapO (mapV P kt kf vf m)) → (Instr.lookup t (.map (some b)) (pack P kt (kf k)) cm).run P w = .ok (match (mget k m 0) with | some (_, v) => (if cm then .tuple #[vf v, .bool true] else vf v) | none => (if cm then .tuple #[z, .bool false] else z)) w := fun w hb => by
  unfold Instr.lookup;have hchk := chkT_all (P := P) 20 kt ks hk.shp (mEnt 0 (mapV P kt kf vf m)).toArray.isEmpty 10000 (by decide) (kf k) (hk.fit k hok) w;have hfind := run_findKey_map (vf := vf) hk hok m hm w;simp only [Sem.run_bind, Go.run_underlying ht, Result.andThen_ok, run_getMap hb, Sem.run_pure, hchk, hfind];cases hg : mget k m 0 with
  | some p => obtain ⟨i, v⟩ := p; simp only [Option.map_some]; cases cm <;> rfl
  | none =>
   have hzr : (zeroValue et).run P w = .ok z w := by
    unfold zeroV at hz;unfold zeroValue;cases hi : P.info? et with
    | none => rw [hi] at hz; cases hz
    | some i =>
     rw [hi] at hz;rw [Sem.run_bind, run_info hi, Result.andThen_ok];simp only at hz;simp only [hz]; rfl
   simp only [Option.map_none, Sem.run_bind, hzr, Result.andThen_ok, Sem.run_pure]
 cases hg : mget k m 0 with
 | some p => obtain ⟨i, v⟩ := p; exact doR_st (fun w h' L' hle hL s => by rw [run w (hh.get hle hL s), hg]) (hs i v hg)
 | none => exact doR_st (fun w h' L' hle hL s => by rw [run w (hh.get hle hL s), hg]) (hn hg)
theorem run_setObj {w : World} {r : Nat} {o0 o : Obj} (ho : ∀ cs E fr, o0 ≠ .cells cs E fr) (hb : w.heap[r]? = some o0) : (setObj r o).run P w = .ok () { w with heap := w.heap.setIfInBounds r o } := by
 cases o0 with
 | cells cs E fr => exact absurd rfl (ho cs E fr)
 | _ => simp [setObj, Sem.run, hb]
theorem make_map (hk : ∀ b, K (.map (some b)) h ((b, mapO []) :: L)) : DoV P c (Instr.makeMap t none) h L K := by
 refine doV_new (o := mapO []) (f := fun b => .map (some b)) (fun w => ?_) hk;unfold Instr.makeMap;simp [newObj, mapO, mEnt]
 try rfl
theorem make_mapN {n : Nat} (ht : P.underlying t = some (.map kt et)) (hk : ∀ b, K (.map (some b)) h ((b, mapO []) :: L)) : DoV P c (Instr.makeMap t (some (.int .i64 (n : Int)))) h L K := by
 refine doV_new (o := mapO []) (f := fun b => .map (some b)) (fun w => ?_) hk;unfold Instr.makeMap;simp [newObj, mapO, mEnt, Go.run_underlying ht, asInt];rfl
theorem map_update {b : Nat} {m : List (κ × β)} {k : κ} {v : β} {x : Value} {M L' : Own} (ht : P.underlying t = some (.map kt et)) (hk : KeyT P kt ks kf ok) (hok : ok k) (hm : ∀ p ∈ m, ok p.1) (hx : x = vf v)
 (hL : L.Perm ((b, mapO (mapV P kt kf vf m)) :: M)) (hL' : ((b, mapO (mapV P kt kf vf (mset k v m))) :: M : Own).Perm L') (hK : K undef h L') : DoU P c (Instr.mapUpdate t (.map (some b)) (pack P kt (kf k)) x) h L K := by
 subst hx;refine ⟨fun w st0 => ?_⟩;have st := Ghost.perm (h := h) hL c w st0;have hb := st.own b _ (List.mem_cons_self ..);have hchk := chkT_all (P := P) 20 kt ks hk.shp false 10000 (by decide) (kf k) (hk.fit k hok) w;have hfind := run_findKey_map (vf := vf) hk hok m hm w;refine ⟨_, h, L', ?_, GH.le_refl h, Ghost.perm hL' c _ (st.setObj (o' := mapO (mapV P kt kf vf (mset k v m)))), hK⟩;unfold Instr.mapUpdate;simp only [Sem.run_bind, Go.run_underlying ht, Result.andThen_ok, run_getMap hb, hchk, hfind];cases hg : mget k m 0 with
 | none =>
  simp only [Option.map_none];rw [mset_snoc hg]
  have : mapO (mapV P kt kf vf (m ++ [(k, v)])) = .map ((mEnt 0 (mapV P kt kf vf m)).toArray.push { key := pack P kt (kf k), val := vf v, born := (mapV P kt kf vf m).length }) ((mapV P kt kf vf m).length + 1) := by
   unfold mapO;have e : mapV P kt kf vf (m ++ [(k, v)]) = mapV P kt kf vf m ++ [(pack P kt (kf k), vf v)] := by simp [mapV]
   rw [e, mEnt_snoc]; simp
  rw [this];exact run_setObj (fun _ _ _ h => by cases h) hb
 | some p =>
  obtain ⟨i, u⟩ := p;obtain ⟨_, hget⟩ := mget_some hg;simp only [Nat.sub_zero] at hget
  have hkey : ((mEnt 0 (mapV P kt kf vf m)).toArray[i]?.map (·.key)).getD (pack P kt (kf k)) = pack P kt (kf k) := by
   simp only [List.getElem?_toArray, mEnt_get];simp [mapV, hget]
  simp only [Option.map_some, hkey]
  have hkt : (Instr.keyThatStays (pack P kt (kf k)) (pack P kt (kf k))).run P w = .ok (pack P kt (kf k)) w := by
   unfold Instr.keyThatStays;rw [sameBits_pack 9999 (hk.fit k hok) (fun e => by rw [hk.agg] at e; cases e)];rfl
  rw [Sem.run_bind, hkt, Result.andThen_ok, mset_set hg]
  have : mapO (mapV P kt kf vf (m.set (i - 0) (k, v))) = .map ((mEnt 0 (mapV P kt kf vf m)).toArray.modify i fun e => { e with key := pack P kt (kf k), val := vf v }) (mapV P kt kf vf m).length := by
   unfold mapO;have e : mapV P kt kf vf (m.set (i - 0) (k, v)) = (mapV P kt kf vf m).set i (pack P kt (kf k), vf v) := by simp [mapV, List.map_set]
   rw [e, ← mEnt_set]; simp
  rw [this];exact run_setObj (fun _ _ _ h => by cases h) hb
def iterO (b n : Nat) (seen : List Nat) : Obj := .mapIter (some b) n seen.toArray n
theorem range_map {b : Nat} {m : List (Value × Value)} (ht : P.underlying t = some (.map kt et)) (hh : Has h L b (mapO m)) (hk : ∀ r, K (.pointer (some ⟨r, 0, none⟩)) h ((r, iterO b m.length []) :: L)) : DoV P c (Instr.range t (.map (some b))) h L K := by
 refine ⟨fun w s => ?_⟩;have hb := hh.get (GH.le_refl h) (fun _ e => e) s;refine ⟨_, _, h, _, ?_, GH.le_refl h, s.alloc (iterO b m.length []), hk w.heap.size⟩;unfold Instr.range;simp only [Sem.run_bind, Go.run_underlying ht, Result.andThen_ok, run_getMap hb, Sem.run_pure];simp [newObj, iterO];rfl
theorem next_map {ty : TypeId} {b r : Nat} {m : List (Value × Value)} {seen : List Nat} {M : Own} (hL : L.Perm ((r, iterO b m.length seen) :: M)) (hh : Has h M b (mapO m))
 (ht : ∀ i p, m[i]? = some p → i ∉ seen → ∃ L', ((r, iterO b m.length (seen ++ [i])) :: M : Own).Perm L' ∧ K (.tuple #[.bool true, p.1, p.2]) h L')
 (hf : (∀ i, i < m.length → i ∈ seen) → K (.tuple #[.bool false]) h L) : DoV P c (Instr.next (.pointer (some ⟨r, 0, none⟩)) false ty) h L K := by
 refine ⟨fun w st0 => ?_⟩;have st := Ghost.perm (h := h) hL c w st0;have hr := st.own r _ (List.mem_cons_self ..);have hb := hh.get (GH.le_refl h) (fun e he => List.mem_cons_of_mem _ he) st;have hgr : ∀ w : World, w.heap[r]? = some (iterO b m.length seen) → (getObj r).run P w = .ok (.mapIter (some b) m.length seen.toArray m.length) w := fun w e => run_getObj (fun _ _ _ x => by cases x) e
 have hgb : ∀ w : World, w.heap[b]? = some (mapO m) → (getObj b).run P w = .ok (.map (mEnt 0 m).toArray m.length) w := fun w e => run_getMap e
 have hmem : ∀ e ∈ mEnt 0 m, ∃ i p, m[i]? = some p ∧ e = { key := p.1, val := p.2, born := i } := fun e he => by
  obtain ⟨i, hi, rfl⟩ := List.getElem_of_mem he;have h1 : (mEnt 0 m)[i]? = some (mEnt 0 m)[i] := List.getElem?_eq_getElem hi;rw [mEnt_get] at h1;cases hp : m[i]? with
  | none => rw [hp] at h1; cases h1
  | some p => rw [hp] at h1; simp at h1; exact ⟨i, p, hp, h1.symm⟩
 have hold : (!seen.toArray.isEmpty && !(mEnt 0 m).toArray.isEmpty && (mEnt 0 m).toArray.all (fun e => decide (e.born ≥ m.length))) = false := by
  cases m with
  | nil => simp [mEnt]
  | cons p q => obtain ⟨x, y⟩ := p; simp [mEnt]
 let left := (mEnt 0 m).filter fun e => !seen.contains e.born
 have hleft : ((mEnt 0 m).toArray.filter fun e => !seen.toArray.contains e.born) = left.toArray := by
  apply Array.toList_inj.1;simp [left]
 have hnew : left.filter (fun e => decide (e.born ≥ m.length)) = [] := by
  rw [List.filter_eq_nil_iff];intro e he;obtain ⟨i, p, hp, rfl⟩ := hmem e (List.mem_filter.1 he).1;have := (List.getElem?_eq_some_iff.1 hp).1;simp; omega
 have hall : left.filter (fun e => decide (e.born < m.length)) = left := by
  rw [List.filter_eq_self];intro e he;obtain ⟨i, p, hp, rfl⟩ := hmem e (List.mem_filter.1 he).1;have := (List.getElem?_eq_some_iff.1 hp).1;simp; omega
 let cand : Array (Option MapEntry) := (if left.toArray.isEmpty then #[none] else #[]) ++ left.toArray.map some
 have step : ∃ w1 : World, St c h ((r, iterO b m.length seen) :: M) w1 ∧ ∃ j, j < cand.size ∧ (choose (.mapNext cand.size)).run P w = .ok j w1 := by
  have hpos : 0 < cand.size := by
   simp only [cand, Array.size_append, Array.size_map];cases hl : left with
   | nil => simp
   | cons a q => simp
  by_cases hq : (Question.mapNext cand.size).forced
  · refine ⟨w, st, 0, hpos, ?_⟩
    rw [run_choose_drew, if_pos hq]
  · refine ⟨w.drew, st.draw, (Question.mapNext cand.size).cut (w.tape w.drawn (.mapNext cand.size)), ?_, ?_⟩
    · exact Nat.mod_lt _ hpos
    · rw [run_choose_drew, if_neg hq]
 obtain ⟨w1, st1, j, hj, hch⟩ := step;have hpick : ∃ o, cand[j]? = some o := ⟨cand[j], by simp [hj]⟩;obtain ⟨o, ho⟩ := hpick
 have hrun : (Instr.next (.pointer (some ⟨r, 0, none⟩)) false ty).run P w = (match o with
  | some e => (do setObj r (.mapIter (some b) m.length (seen.toArray.push e.born) m.length); pure (.tuple #[.bool true, e.key, e.val]) : Sem Value)
  | none => pure (.tuple #[.bool false])).run P w1 := by
  unfold Instr.next
  simp only [Sem.run_bind, hgr w hr, hgb w hb, Result.andThen_ok, hold, hleft];simp only [List.filter_toArray, hnew, hall, Bool.false_eq_true, if_false, Array.append_empty, List.append_toArray, List.append_nil];show Sem.run P (choose (.mapNext cand.size) >>= _) w = _;rw [Sem.run_bind, hch, Result.andThen_ok];show Sem.run P (match cand[j]? with | some (some e) => _ | some none => _ | none => _) w1 = _;rw [ho];cases o <;> rfl
 have hmemo : o ∈ cand.toList := by
  rw [Array.mem_toList_iff]; exact Array.mem_of_getElem? ho
 cases o with
 | none =>
  refine ⟨_, w1, h, L, hrun, GH.le_refl h, Ghost.perm hL.symm c _ st1, hf (fun i hi => ?_)⟩
  have hl : left = [] := by
   cases hl : left with
   | nil => rfl
   | cons a q => simp [cand, hl] at hmemo
  cases hc : seen.contains i with
  | true => simpa using hc
  | false =>
   have h1 : (mEnt 0 m)[i]? = m[i]?.map fun p => { key := p.1, val := p.2, born := 0 + i } := mEnt_get 0 m i
   rw [List.getElem?_eq_getElem hi, Option.map_some, Nat.zero_add] at h1;have : ({ key := m[i].1, val := m[i].2, born := i } : MapEntry) ∈ left := List.mem_filter.2 ⟨List.mem_of_getElem? h1, by simp only [hc]; rfl⟩;rw [hl] at this; simp at this
 | some e =>
  have he : e ∈ left := by
   simp only [cand, Array.toList_append, Array.toList_map, List.mem_append, List.mem_map] at hmemo;rcases hmemo with hx | ⟨a, ha, hb⟩
   · split at hx <;> simp at hx
   · cases hb; exact ha
  obtain ⟨he1, he2⟩ := List.mem_filter.1 he;obtain ⟨i, p, hp, rfl⟩ := hmem e he1;obtain ⟨L', hp', hk⟩ := ht i p hp (by simpa using he2);have e2 : iterO b m.length (seen ++ [i]) = .mapIter (some b) m.length (seen.toArray.push i) m.length := by unfold iterO; simp
  rw [e2] at hp';refine ⟨_, _, h, L', ?_, GH.le_refl h, Ghost.perm hp' c _ (st1.setObj (o' := .mapIter (some b) m.length (seen.toArray.push i) m.length)), hk⟩;rw [hrun];simp only;rw [Sem.run_bind, run_setObj (o0 := iterO b m.length seen) (fun _ _ _ x => by cases x) (st1.own r _ (List.mem_cons_self ..)), Result.andThen_ok];rfl
end
end Go.Brd
namespace Go.Brd
section
variable {P : Program} {c : World} {h : GH} {L : Own} {K : Kont} {KR : Value → Prop}
theorem not_tt (hk : KR (.bool false)) : DoR P c (Op.unary .not (.bool true)) h L KR := not_bool hk
theorem not_ff (hk : KR (.bool true)) : DoR P c (Op.unary .not (.bool false)) h L KR := not_bool hk
end
end Go.Brd
namespace Go.Brd
def OsAt (sz : Nat) (v : Value) (k off : Nat) (p : Value) : Prop := ∃ b len cap, v = .slice (some ⟨b, 0, none⟩) len cap ∧ p = .pointer (some ⟨b, k * sz + off, none⟩)
theorem sub_nil {α : Type} {L : List α} : ∀ e ∈ ([] : List α), e ∈ L := fun _ h => by cases h
theorem qq {α : Type} {L M : List α} {a : α} (h1 : a ∈ L) (h2 : ∀ e ∈ M, e ∈ L) : ∀ e ∈ a :: M, e ∈ L := fun e he => by
 rcases List.mem_cons.1 he with rfl | he
 · exact h1
 · exact h2 e he
theorem sub_app {α : Type} {L M N : List α} (h1 : ∀ e ∈ N, e ∈ L) (h2 : ∀ e ∈ M, e ∈ L) : ∀ e ∈ N ++ M, e ∈ L := fun e he => (List.mem_append.1 he).elim (h1 e) (h2 e)
section
variable {P : Program} {c : World} {h : GH} {L : Own} {K : Kont} {KR : Value → Prop}
theorem index_os {t e sz : Nat} {E : TypeId} {v : Value} {ls : List (List Value)} {N : Own} {k : Nat} {ik : IntKind} {i : Int} (ht : sliceOf P t e sz = true) (hv : OS E sz v ls N) (hi : (k : Int) = i) (hk : k < ls.length)
 (hK : ∀ p, OsAt sz v k 0 p → KR p) : DoR P c (Instr.indexAt t v (.int ik i)) h L KR := by
 obtain ⟨b, rest, cap, rfl, rfl, hc, hle, hc2⟩ := hv.toRow (by omega);exact index_own ht hi hk (hK _ ⟨b, _, _, rfl, by rw [Nat.add_zero, Nat.zero_add]⟩)
theorem field_os {t f off sz k o : Nat} {v p : Value} (hf : fieldIs P t f off = true) (hp : OsAt sz v k o p) (hk : ∀ q, OsAt sz v k (o + off) q → KR q) : DoR P c (Instr.fieldAt t p f) h L KR := by
 obtain ⟨b, len, cap, rfl, rfl⟩ := hp;exact qw hf (hk _ ⟨b, len, cap, rfl, by rw [Nat.add_assoc]⟩)
theorem OS.cells_at {E sz : Nat} {v : Value} {ls : List (List Value)} {N : Own} {k off : Nat} {p : Value} {x : List Value} (hv : OS E sz v ls N) (hp : OsAt sz v k off p) (hx : ls[k]? = some x) :
 ∃ (b : Nat) (l : List Value), p = .pointer (some ⟨b, k * sz + off, none⟩) ∧ N = [(b, .cells l.toArray E (0, 0))] ∧ k * sz + sz ≤ l.length ∧ (l.drop (k * sz)).take sz = x ∧ x.length = sz := by
 have hlt := (List.getElem?_eq_some_iff.1 hx).1;obtain ⟨b, rest, cap, rfl, rfl, hc, hle, hc2⟩ := hv.toRow (by omega);obtain ⟨b', len, cap', e1, rfl⟩ := hp;cases e1;obtain ⟨h1, h2⟩ := flat_get (rest := rest) hv.sizes hx;exact ⟨b, _, rfl, rfl, h2, h1, hv.sizes x (List.mem_of_getElem? hx)⟩
theorem load_osX {t n sz k off : Nat} {E : TypeId} {v p : Value} {ls : List (List Value)} {N : Own} {x r : List Value} (ht : aggN P t n = true) (hp : OsAt sz v k off p) (hv : OS E sz v ls N) (hN : ∀ e ∈ N, e ∈ L) (hx : ls[k]? = some x)
 (hn : off + n ≤ x.length) (hr : (x.drop off).take n = r) (hk : KR (.agg r.toArray)) : DoR P c (Instr.loadAt t p) h L KR := by
 obtain ⟨b, l, rfl, rfl, h2, h3, h4⟩ := hv.cells_at hp hx;refine qx ht (hN _ (List.mem_singleton.2 rfl)) (by omega) ?_ hk;rw [← hr, ← h3, List.drop_take, List.take_take, List.drop_drop, Nat.min_eq_left (by omega)]
theorem load_os1 {t sz k off : Nat} {E : TypeId} {v p u : Value} {ls : List (List Value)} {N : Own} {x : List Value} (ht : scalar P t = true) (hp : OsAt sz v k off p) (hv : OS E sz v ls N) (hN : ∀ e ∈ N, e ∈ L) (hx : ls[k]? = some x)
 (hu : x[off]? = some u) (hk : KR u) : DoR P c (Instr.loadAt t p) h L KR := by
 obtain ⟨b, l, rfl, rfl, h2, h3, h4⟩ := hv.cells_at hp hx;refine qO ht (hN _ (List.mem_singleton.2 rfl)) (v := u) ?_ hk;have hlt := (List.getElem?_eq_some_iff.1 hu).1;rw [← h3, List.getElem?_take_of_lt (by omega), List.getElem?_drop] at hu;exact hu
theorem over_part (a x c r : List Value) (off : Nat) (h : off + r.length ≤ x.length) : over (a ++ (x ++ c)) (a.length + off) r = a ++ (over x off r ++ c) := by
 induction r generalizing x off with
 | nil => rfl
 | cons v r ih =>
  simp only [List.length_cons] at h;simp only [over];rw [List.set_append_right _ _ (by omega), Nat.add_sub_cancel_left, List.set_append_left _ _ (by omega)];have := ih (x.set off v) (off + 1) (by simp; omega);rw [Nat.add_assoc]; exact this
theorem store_os {t n sz k off : Nat} {E : TypeId} {v p y : Value} {ls : List (List Value)} {N M : Own} {x x' r : List Value} (ht : sizeIs P t n = true) (hy : y.cells = r.toArray) (hn : r.length = n) (hone : r.all oneCell = true)
 (hp : OsAt sz v k off p) (hv : OS E sz v ls N) (hx : ls[k]? = some x) (hL : L.Perm (N ++ M)) (hoff : off + n ≤ x.length) (hx' : over x off r = x') (hk : ∀ N', OS E sz v (ls.set k x') N' → ∃ L', (N' ++ M).Perm L' ∧ K undef h L') : DoU P c (Instr.storeAt t p y) h L K := by
 have hlt := (List.getElem?_eq_some_iff.1 hx).1;obtain ⟨b, rest, cap, rfl, rfl, hc, hle, hc2⟩ := hv.toRow (by omega);obtain ⟨b', len, cap', e1, rfl⟩ := hp;cases e1;have hxl : x.length = sz := hv.sizes x (List.mem_of_getElem? hx)
 have hkl : (ls.take k).flatten.length = k * sz := by
  rw [flatten_length (sz := sz) (fun l hl => hv.sizes l (List.mem_of_mem_take hl)), List.length_take, Nat.min_eq_left (by omega)]
 have e1 : ls.flatten ++ rest = (ls.take k).flatten ++ (x ++ ((ls.drop (k + 1)).flatten ++ rest)) := by
  have : ls = ls.take k ++ (x :: ls.drop (k + 1)) := by
   have e := (List.getElem?_eq_some_iff.1 hx).2;rw [← e]; simp
  conv => lhs; rw [this]
  rw [List.flatten_append, List.flatten_cons]; simp only [List.append_assoc]
 have e2 : (ls.set k x').flatten ++ rest = (ls.take k).flatten ++ (x' ++ ((ls.drop (k + 1)).flatten ++ rest)) := by
  rw [List.set_eq_take_append_cons_drop, if_pos hlt, List.flatten_append, List.flatten_cons]; simp only [List.append_assoc]
 have e3 : over (ls.flatten ++ rest) (k * sz + off) r = (ls.set k x').flatten ++ rest := by
  rw [e1, e2, ← hx', ← hkl]; exact over_part _ _ _ _ _ (by omega)
 have hxl' : x'.length = sz := by rw [← hx', over_length, hxl]
 have hones' : x'.all oneCell = true := by
  rw [← hx'];have hxo := hv.ones x (List.mem_of_getElem? hx);clear e3 hx' e2 hxl' hn e1 hxl hx hy hkl hoff
  induction r generalizing x off with
  | nil => exact hxo
  | cons u r ih =>
   simp only [List.all_cons, Bool.and_eq_true] at hone;simp only [over];refine ih hone.2 ?_;rw [List.all_eq_true] at hxo ⊢;intro z hz;rcases List.mem_or_eq_of_mem_set hz with h1 | h1
   · exact hxo z h1
   · rw [h1]; exact hone.1
 obtain ⟨L', hp', hk'⟩ := hk [(b, rowO E (ls.set k x') rest)] (by
  refine OS.ofRow (set_all hv.sizes hxl') (set_all hv.ones hones') (by simp) hc hle hc2)
 refine kB ht hy hn hone hL ?_ e3 hp' hk';rw [e1]; simp only [List.length_append, hkl]; omega
end
end Go.Brd
namespace Go.Brd
theorem map_get {α β : Type} {l : List α} {f : α → β} {k : Nat} {x : α} (h : l[k]? = some x) : (l.map f)[k]? = some (f x) := by rw [List.getElem?_map, h]; rfl
end Go.Brd
namespace Go.Brd
section
variable {P : Program} {c : World} {h : GH} {L : Own} {K : Kont} {KR : Value → Prop}
theorem Sl.part {v : Value} {sz : Nat} {ls : List (List Value)} {lo hi : Nat} (hs : Sl h v sz ls) (h1 : lo ≤ hi) (h2 : hi ≤ ls.length) :
 ∃ a cap, v = .slice a ls.length cap ∧ ls.length ≤ cap ∧ Sl h (.slice (if cap = lo then a else a.map (·.add (lo * sz))) (hi - lo) (cap - lo)) sz ((ls.take hi).drop lo) := by
 obtain ⟨a, cap, rfl, hc, hc2, hr⟩ := hs.is;have hlen : ((ls.take hi).drop lo).length = hi - lo := by simp; omega
 refine ⟨a, cap, rfl, hc, ?_, ?_, ?_, ?_⟩
 · exact fun l hl => hs.sizes l (List.mem_of_mem_take (List.mem_of_mem_drop hl))
 · exact fun l hl => hs.ones l (List.mem_of_mem_take (List.mem_of_mem_drop hl))
 · have := hs.small; omega
 · refine ⟨_, _, by rw [hlen], by omega, by omega, ?_⟩
   rcases hr with rfl | ⟨b, off, o, rfl, hb, hcells⟩
   · left; simp
   · by_cases he : lo = hi
     · left; subst he; apply List.eq_nil_of_length_eq_zero; omega
     · right
       have hne : ¬ cap = lo := by omega
       rw [if_neg hne];refine ⟨b, off + lo * sz, o, by simp [addr_add], hb, ?_⟩;have h3 := (hcells.drop (k := lo * sz)).take (k := (hi - lo) * sz)
       have e : ((ls.take hi).drop lo).flatten = (ls.flatten.drop (lo * sz)).take ((hi - lo) * sz) := by
        rw [flatten_drop lo hs.sizes, flatten_take (hi - lo) (fun l hl => hs.sizes l (List.mem_of_mem_drop hl)), List.drop_take]
       rw [e]; exact h3
theorem slice_sl {t e sz : Nat} {v : Value} {ls : List (List Value)} {lo hi : Nat} {k k' : IntKind} {n m : Int} (ht : sliceOf P t e sz = true) (hs : Sl h v sz ls) (hn : (lo : Int) = n) (hm : (hi : Int) = m) (h1 : lo ≤ hi) (h2 : hi ≤ ls.length)
 (hk : ∀ u, Sl h u sz ((ls.take hi).drop lo) → KR u) : DoR P c (Instr.sliceAt t v (some (.int k n)) (some (.int k' m)) none) h L KR := by
 obtain ⟨hu, hsi, _⟩ := sliceOf_parts ht;obtain ⟨a, cap, rfl, hc, hres⟩ := hs.part h1 h2;subst hn; subst hm;refine doR_pure (fun w => ?_) (hk _ hres);have hsz := run_sizeOf hsi w;simp [Instr.sliceAt, Instr.slice, Go.run_underlying hu, Instr.sliceBounds, run_sliceBound, hsz, h1, show (hi : Int) ≤ cap by omega]
theorem slice_sl_lo {t e sz : Nat} {v : Value} {ls : List (List Value)} {lo : Nat} {k : IntKind} {n : Int} (ht : sliceOf P t e sz = true) (hs : Sl h v sz ls) (hn : (lo : Int) = n) (h1 : lo ≤ ls.length)
 (hk : ∀ u, Sl h u sz (ls.drop lo) → KR u) : DoR P c (Instr.sliceAt t v (some (.int k n)) none none) h L KR := by
 obtain ⟨hu, hsi, _⟩ := sliceOf_parts ht;obtain ⟨a, cap, rfl, hc, hres⟩ := hs.part h1 (Nat.le_refl _);rw [List.take_of_length_le (Nat.le_refl _)] at hres;subst hn;refine doR_pure (fun w => ?_) (hk _ hres);have hsz := run_sizeOf hsi w;simp [Instr.sliceAt, Instr.slice, Go.run_underlying hu, Instr.sliceBounds, run_sliceBound, hsz, h1]
theorem slice_sl_hi {t e sz : Nat} {v : Value} {ls : List (List Value)} {hi : Nat} {k : IntKind} {n : Int} (ht : sliceOf P t e sz = true) (hs : Sl h v sz ls) (hn : (hi : Int) = n) (h1 : hi ≤ ls.length)
 (hk : ∀ u, Sl h u sz (ls.take hi) → KR u) : DoR P c (Instr.sliceAt t v none (some (.int k n)) none) h L KR := by
 obtain ⟨hu, hsi, _⟩ := sliceOf_parts ht;obtain ⟨a, cap, rfl, hc, hres⟩ := hs.part (lo := 0) (Nat.zero_le _) h1;rw [List.drop_zero] at hres;subst hn
 have e : (.slice (if cap = 0 then a else a.map (·.add (0 * sz))) (hi - 0) (cap - 0) : Value) = .slice a hi cap := by
  congr 1
  · split
    · rfl
    · cases a with
      | none => rfl
      | some x => simp [Addr.add]
 rw [e] at hres;refine doR_pure (fun w => ?_) (hk _ hres);have hsz := run_sizeOf hsi w
 have e2 : (if cap = 0 then a else a.map (·.add 0)) = a := by
  split
  · rfl
  · cases a with
    | none => rfl
    | some x => simp [Addr.add]
 simp [Instr.sliceAt, Instr.slice, Go.run_underlying hu, Instr.sliceBounds, run_sliceBound, hsz, show (hi : Int) ≤ cap by omega, e2]
theorem run_firstCells_at {w : World} {b off len cap n sz : Nat} {l : List Value} {E : TypeId} {fr : Nat × Nat} (hw : w.heap[b]? = some (.cells l.toArray E fr)) (hn : off + n * sz ≤ l.length) : (Builtin.firstCells sz n (.slice (some ⟨b, off, none⟩) len cap)).run P w = .ok ((l.drop off).take (n * sz)).toArray w := by
 have hl : ((l.drop off).take (n * sz)).length = n * sz := by simp; omega
 have := run_loadCellsFrom (P := P) (w := w) (b := b) (off := off) ((l.drop off).take (n * sz)).length 0 #[] ((l.drop off).take (n * sz)) (fun j hj => by
  unfold World.cell?;simp only [hw, Option.isSome_none, Bool.false_eq_true, if_false, Nat.zero_add, List.getElem?_toArray];rw [hl] at hj;rw [List.getElem_take, List.getElem_drop, List.getElem?_eq_getElem (by omega)]) rfl
 rw [hl] at this;unfold Builtin.firstCells loadCells
 simpa using this
theorem copy_same {t xt e sz b off dl dc off2 sl sc n : Nat} {ty : TypeId} {E : TypeId} {l l' : List Value} {M L' : Own} (ht : sliceOf P t e sz = true) (hn : Nat.min sl dl = n) (hL : L.Perm ((b, .cells l.toArray E (0, 0)) :: M)) (h1 : off + n * sz ≤ l.length) (h2 : off2 + n * sz ≤ l.length) (hone : ((l.drop off2).take (n * sz)).all oneCell = true)
 (hov : over l off ((l.drop off2).take (n * sz)) = l') (hL' : ((b, .cells l'.toArray E (0, 0)) :: M).Perm L') (hk : K (.int .i64 (n : Int)) h L') : DoV P c (Builtin.copy_ #[t, xt] ty #[.slice (some ⟨b, off, none⟩) dl dc, .slice (some ⟨b, off2, none⟩) sl sc]) h L K := by
 obtain ⟨hu, hsi, _⟩ := sliceOf_parts ht;refine ⟨fun w st0 => ?_⟩;have st := Ghost.perm (h := h) hL c w st0;have hw := st.own b _ (List.mem_cons_self ..);have hl : ((l.drop off2).take (n * sz)).length = n * sz := by simp; omega
 obtain ⟨w', hr, s2⟩ := run_storeCells (P := P) off ((l.drop off2).take (n * sz)) 0 l w st (by omega) (fun j _ _ hh => by simp at hh) (fun x hx => List.all_eq_true.1 hone x hx);rw [Nat.add_zero, hov] at s2;refine ⟨_, w', h, L', ?_, GH.le_refl h, Ghost.perm hL' c _ s2, hk⟩;unfold Builtin.copy_;have hf := run_firstCells_at (P := P) (w := w) (len := sl) (cap := sc) (n := n) (sz := sz) hw h2;simp [Go.run_underlying hu, run_sizeOf hsi, Builtin.lenOf, hn, hf, hr, goInt]
theorem copy_sl {t xt e sz b off dl dc : Nat} {ty : TypeId} {E : TypeId} {v : Value} {xs : List (List Value)} {l l' : List Value} {M L' : Own} (ht : sliceOf P t e sz = true) (hs : Sl h v sz xs) (hn : xs.length ≤ dl) (hL : L.Perm ((b, .cells l.toArray E (0, 0)) :: M)) (h1 : off + xs.length * sz ≤ l.length)
 (hov : over l off xs.flatten = l') (hL' : ((b, .cells l'.toArray E (0, 0)) :: M).Perm L') (hk : K (.int .i64 (xs.length : Nat)) h L') : DoV P c (Builtin.copy_ #[t, xt] ty #[.slice (some ⟨b, off, none⟩) dl dc, v]) h L K := by
 obtain ⟨hu, hsi, _⟩ := sliceOf_parts ht;refine ⟨fun w st0 => ?_⟩;have st := Ghost.perm (h := h) hL c w st0;have hl := flatten_length hs.sizes
 obtain ⟨w', hr, s2⟩ := run_storeCells (P := P) off xs.flatten 0 l w st (by omega) (fun j _ _ hh => by simp at hh) (fun x hx => by
  obtain ⟨y, hy, hxy⟩ := List.mem_flatten.1 hx;exact List.all_eq_true.1 (hs.ones y hy) x hxy)
 rw [Nat.add_zero, hov] at s2;have hf := run_firstCells_sl (P := P) hs st;obtain ⟨a, cap, rfl, hc, _, _⟩ := hs.is;refine ⟨_, w', h, L', ?_, GH.le_refl h, Ghost.perm hL' c _ s2, hk⟩;unfold Builtin.copy_;have hmin : Nat.min xs.length dl = xs.length := Nat.min_eq_left hn;simp [Go.run_underlying hu, run_sizeOf hsi, Builtin.lenOf, hmin, hf, hr, goInt]
theorem load_atD {t : TypeId} {p v : Value} {l : List Value} {j : Nat} (ht : scalar P t = true) (ha : At h p (l.drop j)) (hl : l[j]? = some v) (hk : KR v) : DoR P c (Instr.loadAt t p) h L KR := by
 obtain ⟨hlt, e⟩ := List.getElem?_eq_some_iff.1 hl;rw [List.drop_eq_getElem_cons hlt, e] at ha;exact ql ht ha hk
end
end Go.Brd
namespace Go.Brd
def GH.del (h : GH) (b : Nat) : GH := fun x => if x = b then none else h x
section
variable {P : Program} {c : World} {h : GH} {L : Own} {K : Kont}
theorem St.thaw {h' : GH} {b : Nat} {o : Obj} {M : Own} {w : World} (hb : h' b = some o) (s : St c h' M w) : St c (h'.del b) ((b, o) :: M) w := by
 refine ⟨s.os, s.tape, s.output, fun x p e => ?_, fun x p hm => ?_, fun x p hm => ?_, ?_, s.dr⟩
 · unfold GH.del at e
   split at e
   · cases e
   · exact s.gh x p e
 · rcases List.mem_cons.1 hm with e | hm
   · cases e; exact s.gh b o hb
   · exact s.own x p hm
 · unfold GH.del
   split
   · rfl
   · rename_i hx
     rcases List.mem_cons.1 hm with e | hm
     · cases e; exact absurd rfl hx
     · exact s.sep x p hm
 · simp only [List.map_cons, List.nodup_cons]
   refine ⟨fun hm => ?_, s.nd⟩;obtain ⟨⟨x, p⟩, hm2, rfl⟩ := List.mem_map.1 hm;have := s.sep x p hm2;simp only at hb;rw [hb] at this; cases this
theorem GH.le_del {h h' : GH} {b : Nat} (hb : h b = none) (hle : GH.le h h') : GH.le h (h'.del b) := fun x o e => by
 unfold GH.del;split
 · subst x; rw [hb] at e; cases e
 · exact hle x o e
theorem DoCall.lend {n : FuncId} {fi ca args : Array Value} {b : Nat} {o : Obj} {M : Own} {Q : Value → Prop} (hL : L.Perm ((b, o) :: M))
 (hp : plain P n = true) (hf : ∀ h', GH.le h h' → h' b = some o → Fun P c n (fi ++ args ++ ca) h' M (fun u _ L'' => Q u ∧ M = L'')) (hk : ∀ u h3, GH.le h h3 → Q u → K u h3 L) : DoCall P c (.func (.func n) fi ca) args h L K := by
 refine ⟨n, fi, ca, rfl, .inl ⟨hp, fun w st0 => ?_⟩⟩;have st := Ghost.perm (h := h) hL c w st0;have hb := st.free;have st' := Ghost.freeze h M b o c w st;refine ((hf (h.ins b o) (GH.le_ins hb) (GH.ins_same h b o)).run w st').mono ?_;rintro e w' ⟨v, h', L', rfl, hle, s', hq, rfl⟩;have hb' : h' b = some o := hle b o (GH.ins_same h b o);refine ⟨v, h'.del b, L, rfl, GH.le_del hb (GH.le_trans (GH.le_ins hb) hle), Ghost.perm hL.symm c w' (s'.thaw hb'), hk v _ (GH.le_del hb (GH.le_trans (GH.le_ins hb) hle)) hq⟩
theorem DoCall.borrow {n : FuncId} {fi ca args : Array Value} {E sz : Nat} {v : Value} {ls : List (List Value)} {N M : Own} {Q : Value → Prop} (hp : plain P n = true) (s : OS E sz v ls N) (hsm : ls.length < 2 ^ 62) (hL : L.Perm (N ++ M))
 (hf : ∀ h', GH.le h h' → Sl h' v sz ls → Fun P c n (fi ++ args ++ ca) h' M (fun u _ L'' => Q u ∧ M = L'')) (hk : ∀ u h3, GH.le h h3 → Q u → K u h3 L) : DoCall P c (.func (.func n) fi ca) args h L K := by
 rcases s.is with ⟨rfl, rfl, rfl⟩ | ⟨b, rest, cap, rfl, rfl, hc, hle, hc2⟩
 · have hsl : Sl h (.slice none 0 0) sz [] := ⟨by simp, by simp, by simp, none, 0, by simp, by simp, by decide, .inl rfl⟩
   have := hf h (GH.le_refl h) hsl;refine ⟨n, fi, ca, rfl, .inl ⟨hp, fun w st0 => ?_⟩⟩;have st := Ghost.perm (h := h) hL c w st0;refine (this.run w st).mono ?_;rintro e w' ⟨u, h', L', rfl, hle, s', hq, rfl⟩;exact ⟨u, h', L, rfl, hle, Ghost.perm hL.symm c w' s', hk u h' hle hq⟩
 · refine DoCall.lend hL hp (fun h' hle2 hb => hf h' hle2 ?_) hk
   exact ⟨s.sizes, s.ones, hsm, some ⟨b, 0, none⟩, cap, rfl, hle, hc2, .inr ⟨b, 0, _, rfl, hb, _, _, _, rfl, fun j hj => by
    rw [List.getElem?_toArray, Nat.zero_add, List.getElem?_append_left hj, List.getElem?_eq_getElem hj]⟩⟩
end
end Go.Brd
namespace Go.Brd
def fieldOf (P : Program) (t : TypeId) (f : Nat) (ft off : Nat) : Bool := match P.underlying t with
 | some (.struct fs) => match fs[f]? with
  | some x => Nat.beq x.offset off && Nat.beq x.type ft
  | none => false
 | _ => false
section
variable {P : Program} {c : World} {h : GH} {L : Own} {K : Kont} {KR : Value → Prop}
theorem run_partX {t n off : Nat} {l r : List Value} (ht : aggN P t n = true) (hr : (l.drop off).take n = r) (w : World) : (part t l.toArray off).run P w = .ok (.agg r.toArray) w := by
 unfold part;rw [Sem.run_bind, run_isAgg_true ht, Result.andThen_ok];simp only [if_true];rw [Sem.run_bind, run_sizeOf (aggN_size ht), Result.andThen_ok, ← hr];show Result.ok _ w = _;congr 2
 apply Array.toList_inj.1;simp [List.take_drop, Nat.add_comm]
theorem run_part1 {t off : Nat} {l : List Value} {v : Value} (ht : scalar P t = true) (hv : l[off]? = some v) (w : World) : (part t l.toArray off).run P w = .ok v w := by
 unfold part;rw [Sem.run_bind, run_isAgg_false ht, Result.andThen_ok];simp only [Bool.false_eq_true, if_false, List.getElem?_toArray, hv]; rfl
theorem fieldOf_parts {t f ft off : Nat} (hf : fieldOf P t f ft off = true) : ∃ fs x, P.underlying t = some (.struct fs) ∧ fs[f]? = some x ∧ x.offset = off ∧ x.type = ft := by
 unfold fieldOf at hf;split at hf
 · rename_i fs hu
   split at hf
   · rename_i x hx
     simp only [Bool.and_eq_true] at hf;exact ⟨fs, x, hu, hx, Nat.eq_of_beq_eq_true hf.1, Nat.eq_of_beq_eq_true hf.2⟩
   · cases hf
 · cases hf
theorem field_aggX {t f ft off n : Nat} {l r : List Value} (hf : fieldOf P t f ft off = true) (ht : aggN P ft n = true) (hr : (l.drop off).take n = r) (hk : KR (.agg r.toArray)) : DoR P c (Instr.field t (.agg l.toArray) f) h L KR := by
 obtain ⟨fs, x, hu, hx, rfl, rfl⟩ := fieldOf_parts hf;refine doR_pure (fun w => ?_) hk;unfold Instr.field;rw [Sem.run_bind, run_underlying hu, Result.andThen_ok];simp only [hx];show Sem.run P ((asAgg (.agg l.toArray)) >>= _) w = _;rw [Sem.run_bind];show Sem.run P (part x.type l.toArray x.offset) w = _;exact run_partX ht hr w
theorem field_sc {t f ft off : Nat} {l : List Value} {v : Value} (hf : fieldOf P t f ft off = true) (ht : scalar P ft = true) (hv : l[off]? = some v) (hk : KR v) : DoR P c (Instr.field t (.agg l.toArray) f) h L KR := by
 obtain ⟨fs, x, hu, hx, rfl, rfl⟩ := fieldOf_parts hf;refine doR_pure (fun w => ?_) hk;unfold Instr.field;rw [Sem.run_bind, run_underlying hu, Result.andThen_ok];simp only [hx];show Sem.run P ((asAgg (.agg l.toArray)) >>= _) w = _;rw [Sem.run_bind];show Sem.run P (part x.type l.toArray x.offset) w = _;exact run_part1 ht hv w
theorem index_sc {t m e k : Nat} {ik : IntKind} {i : Int} {l : List Value} {v : Value} (ht : arrayOf P t m e 1 = true) (hs : scalar P e = true) (hi : (k : Int) = i) (hk : k < m) (hv : l[k]? = some v) (hK : KR v) : DoR P c (Instr.index t (.agg l.toArray) (.int ik i)) h L KR := by
 obtain ⟨hu, hn⟩ := arrayOf_parts ht;subst hi;refine doR_pure (fun w => ?_) hK;unfold Instr.index;simp only [asIntOf];have e1 : ∀ (α β : Type) (m : Sem α) (f : α → Sem β), Sem.bind m f = (m >>= f) := fun _ _ _ _ => rfl
 simp only [Sem.run_bind, pure, Sem.run, Result.andThen_ok, run_underlying hu, e1];rw [if_pos ⟨by omega, by omega⟩];simp only [Sem.run_bind, run_sizeOf hn, Result.andThen_ok, Int.toNat_natCast, Nat.mul_one];exact run_part1 hs hv w
theorem DoCall.box {n : FuncId} {l : List Value} {b : Nat} {o o' : Obj} {M L2 : Own} {Q : Value → GH → Prop} (hL : L.Perm ((b, o) :: M)) (hf : Fun P c n l.toArray h ((b, o) :: M) (fun u h' L' => Q u h' ∧ (b, o') :: M = L')) (hL2 : ((b, o') :: M : Own).Perm L2)
 (hk : ∀ u h', GH.le h h' → Q u h' → K u h' L2) : DoCall P c (.func (.func n) #[] #[]) l.toArray h L K := by
 refine ⟨n, #[], #[], rfl, .inl ⟨hf.plain, fun w st0 => ?_⟩⟩;have st := Ghost.perm (h := h) hL c w st0;have e : (#[] : Array Value) ++ l.toArray ++ #[] = l.toArray := by simp
 rw [e];refine (hf.run w st).mono ?_;rintro e w' ⟨v, h', L', rfl, hle, s', hq, rfl⟩;exact ⟨v, h', L2, rfl, hle, Ghost.perm hL2 c w' s', hk v h' hle hq⟩
theorem slice_ptr_hi {t m e n b off hi : Nat} {k : IntKind} {i : Int} (ht : arrayOf P t m e n = true) (hn : (hi : Int) = i) (hle : hi ≤ m) (hk : KR (.slice (some ⟨b, off, none⟩) hi m)) : DoR P c (Instr.sliceAt t (.pointer (some ⟨b, off, none⟩)) none (some (.int k i)) none) h L KR := by
 obtain ⟨hu, hsi⟩ := arrayOf_parts ht;subst hn;refine doR_pure (v := .slice (some ⟨b, off, none⟩) hi m) (fun w => ?_) hk;have hsz := run_sizeOf hsi w;by_cases hm : m = 0
 · simp [Instr.sliceAt, Instr.sureAddr, Go.run_underlying hu, Instr.sliceBounds, run_sliceBound, hsz, show (hi : Int) ≤ m by omega, addr_add, Instr.slice, asAddr]
 · simp [Instr.sliceAt, Instr.sureAddr, Go.run_underlying hu, Instr.sliceBounds, run_sliceBound, hsz, show (hi : Int) ≤ m by omega, addr_add, Instr.slice, asAddr]
end
end Go.Brd
namespace Go.Brd
section
variable {P : Program} {c : World} {h : GH} {L : Own} {K : Kont} {KR : Value → Prop}
theorem run_shape {w : World} {b : Nat} {cs : Array Value} {E : TypeId} {fr : Nat × Nat} (hb : w.heap[b]? = some (.cells cs E fr)) : (shape b).run P w = .ok (some (E, cs.size)) w := by
 show (Sem.pure (w.shape? b)).run P w = _;unfold World.shape?;rw [hb]; rfl
theorem run_noView {w : World} {a : Addr} {cs : Array Value} {E : TypeId} {fr : Nat × Nat} (hb : w.heap[a.block]? = some (.cells cs E fr)) : (noView a).run P w = .ok () w := by
 unfold noView viewAt;simp [Sem.run_bind, run_shape hb]
theorem run_frozen {w : World} {a : Addr} : (frozen a).run P w = .ok (w.frozen? a) w := rfl
theorem frozen_own {w : World} {b off : Nat} {cs : Array Value} {E : TypeId} (hb : w.heap[b]? = some (.cells cs E (0, 0))) : w.frozen? ⟨b, off, none⟩ = false := by
 unfold World.frozen?; simp [hb]
theorem overlaps_ext {f : FuncId} {fn : Func} {ps rs : Array TypeId} {t e sz : Nat} {v : Value} {x : List (List Value)} {b off len cap : Nat} {l : List Value} {E : TypeId} (hf : P.funcs[f]? = some fn) (hname : (fn.name == "runtime.NumGoroutine") = false) (hb : fn.body.isNone = true) (hn : Extern.findNext fn = none)
 (he : Extern.find fn = some (Extern.SlicesOverlaps.overlaps ps rs)) (hps : ps[0]? = some t) (ht : sliceOf P t e sz = true) (hv : Sl h v sz x) (hm : (b, Obj.cells l.toArray E (0, 0)) ∈ L) (hl : 0 < l.length) :
 Ext P c f #[v, .slice (some ⟨b, off, none⟩) len cap] h L (fun z _ L' => z = .bool false ∧ L = L') := ⟨fun w s => by
 refine ⟨.bool false, w, h, L, ?_, GH.le_refl h, s, rfl, rfl⟩;rw [run_callFunc_extern hf hname hb hn he];obtain ⟨hu, hsi, _⟩ := sliceOf_parts ht;obtain ⟨a, vc, rfl, _, _, hr⟩ := hv.is;have hw := s.own b _ hm
 generalize hq : Extern.SlicesOverlaps.overlaps ps rs #[Value.slice a x.length vc, Value.slice (some ⟨b, off, none⟩) len cap] = q
 conv at hq => lhs; whnf
 subst hq;simp only [hps, Sem.run_bind, run_underlying hu, Result.andThen_ok, run_sizeOf hsi];rcases hr with rfl | ⟨b2, off2, o, rfl, hb2, hcells⟩
 · cases a with
   | none => rfl
   | some a => simp
 · have hne : b2 ≠ b := fun e => by
    subst e;rw [s.sep b2 _ hm] at hb2; cases hb2
   obtain ⟨cs, E2, fr, rfl, hcc⟩ := hcells;have hw2 := s.gh b2 _ hb2;simp only [Sem.run_bind];split
   · rfl
   · have hbeq : (b2 == b) = false := by simpa using hne
     have hfb : w.frozen? ⟨b, off, none⟩ = false := frozen_own hw;have hfb2 : w.frozen? ⟨b, l.length, none⟩ = false := frozen_own hw;have hsh : w.shape? b = some (E, l.length) := by unfold World.shape?; rw [hw]; simp
     have hsh2 : w.shape? b2 = some (E2, cs.size) := by unfold World.shape?; rw [hw2]
     have hsb : (stringish ⟨b, off, none⟩).run P w = .ok false w := by
      unfold stringish;simp [Sem.run_bind, run_frozen, hfb, hsh, hfb2]
     obtain ⟨sa, hsa⟩ : ∃ sa, (stringish ⟨b2, off2, none⟩).run P w = .ok sa w := by
      unfold stringish;rw [Sem.run_bind, run_frozen, Result.andThen_ok];cases w.frozen? ⟨b2, off2, none⟩ with
      | true => exact ⟨true, rfl⟩
      | false => exact ⟨w.frozen? ⟨b2, cs.size, none⟩, by simp [Sem.run_bind, hsh2, run_frozen]⟩
     have hone : (mayBeOne ⟨b2, off2, none⟩ ⟨b, off, none⟩).run P w = .ok false w := by
      unfold mayBeOne;simp only [Sem.run_bind, hsa, hsb, Result.andThen_ok, Bool.and_false, Bool.false_or, Bool.false_and];cases sa with
      | false => simp [hsh, hsh2, Sem.run_bind]
      | true =>
       rename_i hne0;have hfl := flatten_length hv.sizes;have hpos : 0 < x.length * sz := Nat.mul_pos (by omega) (by omega);have hcs := (Array.getElem?_eq_some_iff.1 (hcc 0 (by omega))).1;cases hl2 : cs.size with
       | zero => omega
       | succ n => simp [hsh, hsh2, Sem.run_bind, hl2]
     simp [Sem.run_bind, hbeq, hne, run_frozen, hfb, run_noView (a := ⟨b, off, none⟩) hw, run_noView (a := ⟨b2, off2, none⟩) hw2, hone]⟩
theorem append_grow {t xt e sz b i cap n : Nat} {kx : IntKind} {ty : TypeId} {l : List Value} {E : TypeId} (ht : sliceOf P t e sz = true) (hxt : ∃ k, P.underlying xt = some (.int k)) (hz : zeroIs P e sz = true) (hm : (b, Obj.cells l.toArray E (0, 0)) ∈ L) (hi : i * sz ≤ l.length)
 (hgrow : cap < i + n) (hn0 : 0 < n) (hn : i + n ≤ 1048576) (hk : ∀ b' nc zz rest, zz.length = n * sz → nc * sz = (i + n) * sz + rest.length → i + n ≤ nc → nc < 2 ^ 63 → K (.slice (some ⟨b', 0, none⟩) (i + n) nc) h ((b', .cells (l.take (i * sz) ++ (zz ++ rest)).toArray e (0, 0)) :: L)) :
 DoV P c (Builtin.append_ #[t, xt] ty #[.slice (some ⟨b, 0, none⟩) i cap, .int kx (n : Int)]) h L K := by
 obtain ⟨hu, hsz, hpos⟩ := sliceOf_parts ht;obtain ⟨kxt, hux⟩ := hxt;obtain ⟨ti, z, hti, hiz, hzn, hb1, hb2⟩ := zeroIs_parts hz
 have hisz : ti.size = sz := by
  unfold sizeIs at hsz; rw [hti] at hsz; exact Nat.eq_of_beq_eq_true hsz
 refine ⟨fun w s => ?_⟩
 have hzero0 : ∀ w1, (zeroValue e).run P w1 = .ok z w1 := fun w1 => by
  unfold zeroValue;rw [Sem.run_bind, run_info hti, Result.andThen_ok];simp only [hiz]; rfl
 have hwrap : IntKind.i64.wrap (n : Int) = (n : Int) := wrap_i64 (by unfold InI64; omega);have hneg : ¬ ((n : Int) < 0) := by omega
 have hbig2 : ¬ (281474976710656 < (n : Int) * (ti.bytes : Int)) := by
  have h1 : n * ti.bytes ≤ 1048576 * 65536 := Nat.mul_le_mul (by omega) hb1;have h2 : ((n * ti.bytes : Nat) : Int) ≤ ((1048576 * 65536 : Nat) : Int) := by omega
  rw [Int.natCast_mul] at h2; omega
 have hint : ∀ (m : Int) (w1 : World), (asIntOf (.int kx m)).run P w1 = .ok (kx, m) w1 := fun _ _ => rfl
 have hfit : ¬ (i + n ≤ cap) := by omega
 let q : Question := .appendCap (i + n) cap e
 obtain ⟨nc, hnc, hn1, hn2⟩ : ∃ nc, nc = q.cut (w.tape w.drawn q) ∧ i + n ≤ nc ∧ nc < 2 ^ 63 := by
  refine ⟨_, rfl, ?_, ?_⟩
  · show _ ≤ _ + _; omega
  · show i + n + w.tape w.drawn q % (2 ^ 63 - (i + n)) < 2 ^ 63
    have : w.tape w.drawn q % (2 ^ 63 - (i + n)) < 2 ^ 63 - (i + n) := Nat.mod_lt _ (by omega);omega
 have hcap : ¬ (281474976710656 < Builtin.nextslicecap (i + n) cap * ti.bytes) := by
  have h1 := nextslicecap_le (n := i + n) (old := cap) (by omega);have h2 : Builtin.nextslicecap (i + n) cap * ti.bytes ≤ (2 * (i + n) + 1000) * 65536 := Nat.mul_le_mul h1 hb1;omega
 let w1 : World := { w with drawn := w.drawn + 1 }
 have s1 : St c h L w1 := s.draw;have hfs : (Builtin.firstCells sz i (.slice (some ⟨b, 0, none⟩) i cap)).run P w1 = .ok ((l.drop 0).take (i * sz)).toArray w1 := run_firstCells_at (s1.own b _ hm) (by omega);rw [List.drop_zero] at hfs
 let zz := Builtin.zeroCells z.cells n
 let zs := Builtin.zeroCells z.cells (nc - (i + n))
 have hzz : zz.size = n * sz := by simp [zz, Builtin.zeroCells, hzn]
 have hzs : zs.size = (nc - (i + n)) * sz := by simp [zs, Builtin.zeroCells, hzn]
 have hroom : (askRoom (nc * ti.bytes)).run P w1 = .ok () w1 := by unfold askRoom; split <;> rfl
 have sN : St c h ((w1.heap.size, .cells (l.take (i * sz) ++ (zz.toList ++ zs.toList)).toArray e (0, 0)) :: L) { w1 with heap := w1.heap.push (.cells (l.take (i * sz) ++ (zz.toList ++ zs.toList)).toArray e) } := s1.alloc (.cells (l.take (i * sz) ++ (zz.toList ++ zs.toList)).toArray e (0, 0))
 have hkk := hk w1.heap.size nc zz.toList zs.toList (by simp [hzz]) (by
  simp only [Array.length_toList, hzs];rw [← Nat.add_mul]; congr 1; omega) hn1 hn2
 refine ⟨_, _, h, _, ?_, GH.le_refl h, sN, hkk⟩;have h63' : ¬ (9223372036854775807 < ((i : Int) + (n : Int))) := by omega
 have hq : (Question.appendCap (i + n) cap e).forced = false := rfl;have hnc' : (Question.appendCap (i + n) cap e).cut (w.tape w.drawn (Question.appendCap (i + n) cap e)) = nc := hnc.symm;have hdrew : w.drew = w1 := rfl
 have hc2 : ∀ (x : Array Value), x = zz → (l.take (i * sz)).toArray ++ (x ++ Builtin.zeroCells z.cells (nc - (i + n))) = (l.take (i * sz) ++ (zz.toList ++ zs.toList)).toArray := by
  intro x hx; subst hx;apply Array.toList_inj.1; simp [zs]
 have hnsz : ¬ (n * sz = 0) := by
  have := Nat.mul_pos hn0 hpos; omega
 have hn00 : ¬ (n = 0) := by omega
 have hsz0 : ¬ (sz = 0) := by omega
 simp [Builtin.append_, Go.run_underlying hu, Go.run_underlying hux, sizeOf, typeInfo, hti, hisz, asInt, hint, hwrap, hneg, hbig2, hfit, h63', hcap, hq, hnc', hdrew, hfs, hroom, hzero0, newRow, newObj, hn00, hsz0];rw [hc2 _ rfl];rw [if_neg hnsz];rfl
theorem copy_other {t xt e sz b off dl dc b2 off2 sl sc n : Nat} {ty : TypeId} {E E2 : TypeId} {l l2 l' : List Value} {M L' : Own} (ht : sliceOf P t e sz = true) (hn : Nat.min sl dl = n) (hL : L.Perm ((b, .cells l.toArray E (0, 0)) :: M)) (hm : (b2, Obj.cells l2.toArray E2 (0, 0)) ∈ M) (h1 : off + n * sz ≤ l.length) (h2 : off2 + n * sz ≤ l2.length)
 (hone : ((l2.drop off2).take (n * sz)).all oneCell = true) (hov : over l off ((l2.drop off2).take (n * sz)) = l') (hL' : ((b, .cells l'.toArray E (0, 0)) :: M).Perm L') (hk : K (.int .i64 (n : Int)) h L') : DoV P c (Builtin.copy_ #[t, xt] ty #[.slice (some ⟨b, off, none⟩) dl dc, .slice (some ⟨b2, off2, none⟩) sl sc]) h L K := by
 obtain ⟨hu, hsi, _⟩ := sliceOf_parts ht;refine ⟨fun w st0 => ?_⟩;have st := Ghost.perm (h := h) hL c w st0;have hw2 := st.own b2 _ (List.mem_cons_of_mem _ hm);have hl : ((l2.drop off2).take (n * sz)).length = n * sz := by simp; omega
 obtain ⟨w', hr, s2⟩ := run_storeCells (P := P) off ((l2.drop off2).take (n * sz)) 0 l w st (by omega) (fun j _ _ hh => by simp at hh) (fun x hx => List.all_eq_true.1 hone x hx);rw [Nat.add_zero, hov] at s2;refine ⟨_, w', h, L', ?_, GH.le_refl h, Ghost.perm hL' c _ s2, hk⟩;unfold Builtin.copy_;have hf := run_firstCells_at (P := P) (w := w) (len := sl) (cap := sc) (n := n) (sz := sz) hw2 h2;simp [Go.run_underlying hu, run_sizeOf hsi, Builtin.lenOf, hn, hf, hr, goInt]
theorem slice_os_any {t e sz E lo : Nat} {v : Value} {ls : List (List Value)} {N : Own} {k : IntKind} {n : Int} (ht : sliceOf P t e sz = true) (hv : OS E sz v ls N) (hn : (lo : Int) = n) (h1 : lo ≤ ls.length) (hk : ∀ u, KR u) : DoR P c (Instr.sliceAt t v (some (.int k n)) none none) h L KR := by
 rcases hv.is with ⟨rfl, rfl, rfl⟩ | ⟨b, rest, cap, rfl, hN, hc, hle, hc2⟩
 · obtain ⟨hu, hsi, _⟩ := sliceOf_parts ht
   have : lo = 0 := by simpa using h1
   subst this;subst hn;refine doR_pure (v := .slice none 0 0) (fun w => ?_) (hk _);have hsz := run_sizeOf hsi w;simp [Instr.sliceAt, Instr.slice, Go.run_underlying hu, Instr.sliceBounds, Instr.sliceBound, asIntOf, hsz]
 · exact sliceB_lo ht hn h1 (hk _)
end
end Go.Brd
namespace Go.Brd
section
variable {P : Program} {c : World} {h : GH} {L : Own} {K : Kont}
theorem DoCall.os {n : FuncId} {l : List Value} {E sz : Nat} {ls : List (List Value)} {N M : Own} (hL : L.Perm (N ++ M)) (hf : Fun P c n l.toArray h (N ++ M) (fun u _ L' => ∃ N', L' = N' ++ M ∧ OS E sz u ls N'))
 (hk : ∀ u h' N', GH.le h h' → OS E sz u ls N' → ∃ L2, (N' ++ M).Perm L2 ∧ K u h' L2) : DoCall P c (.func (.func n) #[] #[]) l.toArray h L K := by
 refine ⟨n, #[], #[], rfl, .inl ⟨hf.plain, fun w st0 => ?_⟩⟩;have st := Ghost.perm (h := h) hL c w st0;have e : (#[] : Array Value) ++ l.toArray ++ #[] = l.toArray := by simp
 rw [e];refine (hf.run w st).mono ?_;rintro e w' ⟨v, h', L', rfl, hle, s', N', rfl, ho⟩;obtain ⟨L2, hp, hk2⟩ := hk v h' N' hle ho;exact ⟨v, h', L2, rfl, hle, Ghost.perm hp c w' s', hk2⟩
end
end Go.Brd
namespace Go.Brd
def mapA {κ β : Type} (kf : κ → List Value) (vf : β → Value) (m : List (κ × β)) : List (Value × Value) := m.map fun p => (.agg (kf p.1).toArray, vf p.2)
theorem pack_agg {P : Program} {t : TypeId} {cs : List Value} (h : isAggT P t = true) : pack P t cs = .agg cs.toArray := by unfold pack; rw [if_pos h]
theorem mapV_agg {κ β : Type} {P : Program} {t : TypeId} {kf : κ → List Value} {vf : β → Value} {m : List (κ × β)} (h : isAggT P t = true) : mapV P t kf vf m = mapA kf vf m := by
 unfold mapV mapA; apply List.map_congr_left; intro p _; rw [pack_agg h]
section
variable {P : Program} {c : World} {h : GH} {L : Own} {K : Kont} {KR : Value → Prop} {κ β : Type} [DecidableEq κ] {ks : List CK} {kf : κ → List Value} {vf : β → Value} {ok : κ → Prop} {t kt et : TypeId}
theorem lookup_mapA {b : Nat} {m : List (κ × β)} {k : κ} {z : Value} {cm : Bool} (ht : P.underlying t = some (.map kt et)) (hk : KeyT P kt ks kf ok) (hok : ok k) (hm : ∀ p ∈ m, ok p.1) (hz : zeroV P et = some z)
 (hh : Has h L b (mapO (mapA kf vf m)))
 (hs : ∀ i v, mget k m 0 = some (i, v) → KR (if cm then .tuple #[vf v, .bool true] else vf v)) (hn : mget k m 0 = none → KR (if cm then .tuple #[z, .bool false] else z)) :
 DoR P c (Instr.lookup t (.map (some b)) (.agg (kf k).toArray) cm) h L KR := by
 rw [← pack_agg hk.agg];exact lookup_map ht hk hok hm hz (by rw [mapV_agg hk.agg]; exact hh) hs hn
theorem map_updateA {b : Nat} {m : List (κ × β)} {k : κ} {v : β} {x : Value} {M L' : Own} (ht : P.underlying t = some (.map kt et)) (hk : KeyT P kt ks kf ok) (hok : ok k) (hm : ∀ p ∈ m, ok p.1) (hx : x = vf v)
 (hL : L.Perm ((b, mapO (mapA kf vf m)) :: M)) (hL' : ((b, mapO (mapA kf vf (mset k v m))) :: M : Own).Perm L') (hK : K undef h L') : DoU P c (Instr.mapUpdate t (.map (some b)) (.agg (kf k).toArray) x) h L K := by
 rw [← pack_agg hk.agg];rw [← mapV_agg hk.agg] at hL hL';exact map_update ht hk hok hm hx hL hL' hK
end
theorem mem_mset {κ β : Type} [DecidableEq κ] {k : κ} {v : β} {p : κ × β} : ∀ {m : List (κ × β)}, p ∈ mset k v m → p = (k, v) ∨ p ∈ m
 | [], h => by simp [mset] at h; exact .inl h
 | (a, b) :: r, h => by
  unfold mset at h;split at h
  · rcases List.mem_cons.1 h with h | h
    · exact .inl h
    · exact .inr (by simp [h])
  · rcases List.mem_cons.1 h with h | h
    · exact .inr (by simp [h])
    · rcases mem_mset h with h | h
      · exact .inl h
      · exact .inr (by simp [h])
theorem mget_mem {κ β : Type} [DecidableEq κ] {k : κ} {m : List (κ × β)} {i : Nat} {v : β} (h : mget k m 0 = some (i, v)) : (k, v) ∈ m := List.mem_of_getElem? (mget_some h).2
end Go.Brd
namespace Go.Brd
theorem DoDraw.cutP {P : Program} {c : World} {N : Nat} {ops : Array Oper} {s : Fr} {h : GH} {L : Own} {Q : Post} (J : Fr → Post) (hd : DoDraw P c N ops s h L (J s)) (hk : ∀ s' h' L', GH.le h h' → J s s' h' L' → ∃ L2, L'.Perm L2 ∧ Q s' h' L2) : DoDraw P c N ops s h L Q :=
 ⟨fun a w t R ha hs hR => hd.run a w t R ha hs fun a' w' s' h' L' h1 h2 h3 h4 => by
  obtain ⟨L2, hp, hq⟩ := hk s' h' L' h2 h4;exact hR a' w' s' h' L2 h1 h2 (Ghost.perm hp c w' h3) hq⟩
end Go.Brd
namespace Go.Brd
section
variable {P : Program} {c : World} {h : GH} {L : Own} {K : Kont}
theorem qG {n : FuncId} {l : List Value} {N M : Own} {Q : Value → GH → Own → Prop} (hL : L.Perm (N ++ M)) (hf : Fun P c n l.toArray h (N ++ M) (fun u h' L' => ∃ N', L' = N' ++ M ∧ Q u h' N'))
 (hk : ∀ u h' N', GH.le h h' → Q u h' N' → ∃ L2, (N' ++ M).Perm L2 ∧ K u h' L2) : DoCall P c (.func (.func n) #[] #[]) l.toArray h L K := by
 refine ⟨n, #[], #[], rfl, .inl ⟨hf.plain, fun w st0 => ?_⟩⟩;have st := Ghost.perm (h := h) hL c w st0;have e : (#[] : Array Value) ++ l.toArray ++ #[] = l.toArray := by simp
 rw [e];refine (hf.run w st).mono ?_;rintro e w' ⟨v, h', L', rfl, hle, s', N', rfl, ho⟩;obtain ⟨L2, hp, hk2⟩ := hk v h' N' hle ho;exact ⟨v, h', L2, rfl, hle, Ghost.perm hp c w' s', hk2⟩
end
end Go.Brd
namespace Go.Brd
theorem chunks {sz : Nat} : ∀ (n : Nat) (l : List Value), l.length = n * sz → l.all oneCell = true → ∃ ls : List (List Value), ls.flatten = l ∧ ls.length = n ∧ (∀ x ∈ ls, x.length = sz) ∧ ∀ x ∈ ls, x.all oneCell = true
 | 0, l, h, _ => ⟨[], by simp at h; simp [h], rfl, by simp, by simp⟩
 | n + 1, l, h, ha => by
  have h1 : (l.drop sz).length = n * sz := by rw [List.length_drop, h, Nat.add_mul]; omega
  rw [← List.take_append_drop sz l, List.all_append, Bool.and_eq_true] at ha;obtain ⟨ls, e, hl, hs, ho⟩ := chunks n (l.drop sz) h1 ha.2;refine ⟨l.take sz :: ls, by rw [List.flatten_cons, e, List.take_append_drop], by simp [hl], ?_, ?_⟩
  · intro x hx
    rcases List.mem_cons.1 hx with rfl | hx
    · rw [List.length_take, h, Nat.add_mul]; omega
    · exact hs x hx
  · intro x hx
    rcases List.mem_cons.1 hx with rfl | hx
    · exact ha.1
    · exact ho x hx
section
variable {P : Program} {c : World} {h : GH} {L : Own} {K : Kont} {KR : Value → Prop}
theorem slice_os_self {t e sz E lo : Nat} {v : Value} {ls : List (List Value)} {N : Own} {k : IntKind} {n : Int} (ht : sliceOf P t e sz = true) (hv : OS E sz v ls N) (hlo : lo = 0) (hn : (lo : Int) = n) (hk : KR v) : DoR P c (Instr.sliceAt t v (some (.int k n)) none none) h L KR := by
 subst hlo;rcases hv.is with ⟨rfl, rfl, rfl⟩ | ⟨b, rest, cap, rfl, hN, hc, hle, hc2⟩
 · obtain ⟨hu, hsi, _⟩ := sliceOf_parts ht
   subst hn;refine doR_pure (v := .slice none 0 0) (fun w => ?_) hk;have hsz := run_sizeOf hsi w;simp [Instr.sliceAt, Instr.slice, Go.run_underlying hu, Instr.sliceBounds, Instr.sliceBound, asIntOf, hsz]
 · refine sliceB_lo ht hn (Nat.zero_le _) ?_
   simp only [Nat.zero_mul, Nat.add_zero, Nat.sub_zero, ite_self]; exact hk
theorem zero_ones {e : TypeId} {zs : List Value} (hz : zeroC P e = some zs) (ho : zs.all oneCell = true) : ∀ i z, P.info? e = some i → i.zero = some z → z.cells.toList.all oneCell = true := fun i z hi hz2 => by
 obtain ⟨i', v, h1, h2, h3⟩ := zeroC_parts hz;rw [hi] at h1; cases h1;rw [hz2] at h2; cases h2;rw [h3]; exact ho
theorem clear_os {t e sz E : Nat} {ty : TypeId} {v : Value} {ls : List (List Value)} {N M : Own} (ht : sliceOf P t e sz = true) (hz : zeroIs P e sz = true) (hz1 : ∀ i z, P.info? e = some i → i.zero = some z → z.cells.toList.all oneCell = true) (hv : OS E sz v ls N) (hL : L.Perm (N ++ M))
 (hk : ∀ u ls' N', ls'.length = ls.length → OS E sz v ls' N' → ∃ L', (N' ++ M).Perm L' ∧ K u h L') : DoV P c (Builtin.clear_ #[t] ty #[v]) h L K := by
 obtain ⟨hu, hsi, hpos⟩ := sliceOf_parts ht;obtain ⟨i, z, hti, hiz, hzn, _, _⟩ := zeroIs_parts hz;have hzo := hz1 i z hti hiz;refine ⟨fun w s0 => ?_⟩;rcases hv.is with ⟨rfl, rfl, rfl⟩ | ⟨b, rest, cap, rfl, rfl, hc, hle, hc2⟩
 · obtain ⟨L', hp, hK⟩ := hk (.tuple #[]) [] [] rfl hv
   refine ⟨_, w, h, L', ?_, GH.le_refl h, Ghost.perm (hL.trans hp) c _ s0, hK⟩;simp [Builtin.clear_, Go.run_underlying hu]
 · by_cases hne : ls.length = 0
   · have : ls = [] := List.length_eq_zero_iff.1 hne
     subst this;obtain ⟨L', hp, hK⟩ := hk (.tuple #[]) [] _ rfl hv;refine ⟨_, w, h, L', ?_, GH.le_refl h, Ghost.perm (hL.trans hp) c _ s0, hK⟩;simp [Builtin.clear_, Go.run_underlying hu]
   · have s := Ghost.perm (h := h) hL c w s0
     have hflat : ls.flatten.length = ls.length * sz := flatten_length hv.sizes;have hzl : (Builtin.zeroCells z.cells ls.length).toList.length = ls.length * sz := by simp [Builtin.zeroCells, hzn]
     have hza : (Builtin.zeroCells z.cells ls.length).toList.all oneCell = true := by
      refine List.all_eq_true.2 fun x hx => ?_
      simp only [Builtin.zeroCells, Array.toList_map, List.mem_map, Array.toList_range, List.mem_range] at hx;obtain ⟨j, hj, rfl⟩ := hx;have hsz0 : 0 < z.cells.size := by rw [hzn]; exact hpos
      have hjm : j % z.cells.size < z.cells.size := Nat.mod_lt _ hsz0;rw [getElem!_pos z.cells _ hjm];exact List.all_eq_true.1 hzo _ (by simp)
     obtain ⟨ls', hfl, hll, hs', ho'⟩ := chunks ls.length _ hzl hza;obtain ⟨w', hr, s2⟩ := run_storeCells (P := P) 0 (Builtin.zeroCells z.cells ls.length).toList 0 (ls.flatten ++ rest) w s (by simp only [List.length_append]; omega) (fun j _ _ hh => by simp at hh) (fun x hx => List.all_eq_true.1 hza x hx)
     have hov : over (ls.flatten ++ rest) (0 + 0) (Builtin.zeroCells z.cells ls.length).toList = ls'.flatten ++ rest := by
      have := over_part [] ls.flatten rest (Builtin.zeroCells z.cells ls.length).toList 0 (by omega);simp only [List.nil_append, List.length_nil, Nat.zero_add] at this;rw [Nat.zero_add, this, hfl];congr 1
      exact over_all (by omega)
     rw [hov] at s2;obtain ⟨L', hp, hK⟩ := hk (.tuple #[]) ls' [(b, .cells (ls'.flatten ++ rest).toArray E (0, 0))] hll ⟨hs', ho', .inr ⟨b, rest, cap, by rw [hll], rfl, by rw [hll]; exact hc, by rw [hll]; exact hle, hc2⟩⟩;refine ⟨_, w', h, L', ?_, GH.le_refl h, Ghost.perm hp c _ s2, hK⟩;obtain ⟨m, hm⟩ : ∃ m, ls.length = m + 1 := ⟨ls.length - 1, by omega⟩
     have hzero0 : ∀ w1, (zeroValue e).run P w1 = .ok z w1 := fun w1 => by
      unfold zeroValue;rw [Sem.run_bind, run_info hti, Result.andThen_ok];simp only [hiz]; rfl
     rw [hm] at hr ⊢;simp [Builtin.clear_, Go.run_underlying hu, hzero0, hr]
end
end Go.Brd
namespace Go.Brd
section
variable {P : Program} {c : World} {h : GH} {L : Own} {K : Kont}
theorem DoCall.osC {n : FuncId} {l m : List Value} {N M : Own} {Q : Value → GH → Own → Prop} (hL : L.Perm (N ++ M)) (hf : Fun P c n (l ++ m).toArray h (N ++ M) (fun u h' L' => ∃ N', L' = N' ++ M ∧ Q u h' N'))
 (hk : ∀ u h' N', GH.le h h' → Q u h' N' → ∃ L2, (N' ++ M).Perm L2 ∧ K u h' L2) : DoCall P c (.func (.func n) #[] m.toArray) l.toArray h L K := by
 refine ⟨n, #[], m.toArray, rfl, .inl ⟨?_, fun w st0 => ?_⟩⟩
 · exact hf.plain
 · have st := Ghost.perm (h := h) hL c w st0
   have e : (#[] : Array Value) ++ l.toArray ++ m.toArray = (l ++ m).toArray := by simp
   rw [e];refine (hf.run w st).mono ?_;rintro e w' ⟨v, h', L', rfl, hle, s', N', rfl, ho⟩;obtain ⟨L2, hp, hk2⟩ := hk v h' N' hle ho;exact ⟨v, h', L2, rfl, hle, Ghost.perm hp c w' s', hk2⟩
end
end Go.Brd
namespace Go.Brd
def kcmp (a b : ByteArray) : Int := Lib.compareBytes a.data.toList b.data.toList
theorem bytesLess_cmp : ∀ a b : List UInt8, Op.bytesLess a b = decide (Lib.compareBytes a b < 0)
 | [], [] => rfl
 | [], _ :: _ => rfl
 | _ :: _, [] => rfl
 | a :: x, b :: y => by
  unfold Op.bytesLess Lib.compareBytes;rw [bytesLess_cmp x y];by_cases h1 : a < b
  · simp [h1]
  · by_cases h2 : b < a
    · have : ¬ a = b := fun e => by subst e; exact h1 h2
      simp [h1, h2, this]
    · have : a = b := by
       apply UInt8.toNat_inj.1;rw [UInt8.lt_iff_toNat_lt] at h1 h2;omega
      subst this;simp [h1]
section
variable {P : Program} {c : World} {h : GH} {L : Own} {KR : Value → Prop}
theorem lssK {t : TypeId} {x y : Operand} {a b : ByteArray} (ht : kcmp a b < 0 → KR (.bool true)) (hf : ¬ kcmp a b < 0 → KR (.bool false)) : DoR P c (eqG .lss t x y (.string a) (.string b)) h L KR := by
 refine lssS ?_;rw [ByteArray.toList_eq, ByteArray.toList_eq, bytesLess_cmp];by_cases e : kcmp a b < 0
 · rw [decide_eq_true (show Lib.compareBytes a.data.toList b.data.toList < 0 from e)]; exact ht e
 · rw [decide_eq_false (show ¬ Lib.compareBytes a.data.toList b.data.toList < 0 from e)]; exact hf e
theorem cmp_zero_iff : ∀ {x y : List UInt8}, Lib.compareBytes x y = 0 → x = y
 | [], [], _ => rfl
 | [], _ :: _, h => by simp [Lib.compareBytes] at h
 | _ :: _, [], h => by simp [Lib.compareBytes] at h
 | a :: x, b :: y, h => by
  unfold Lib.compareBytes at h;split at h
  · omega
  · split at h
    · omega
    · rename_i h1 h2
      have : a = b := by
       apply UInt8.toNat_inj.1;rw [UInt8.lt_iff_toNat_lt] at h1 h2;omega
      rw [this, cmp_zero_iff h]
theorem cmp_self : ∀ (x : List UInt8), Lib.compareBytes x x = 0
 | [] => rfl
 | a :: x => by
  unfold Lib.compareBytes;have : ¬ a < a := by rw [UInt8.lt_iff_toNat_lt]; omega
  rw [if_neg this, if_neg this, cmp_self x]
theorem kcmp_zero {a b : ByteArray} : kcmp a b = 0 ↔ a = b := by
 constructor
 · intro h
   have := cmp_zero_iff h;obtain ⟨⟨x⟩⟩ := a; obtain ⟨⟨y⟩⟩ := b;simp only at this;rw [this]
 · rintro rfl; exact cmp_self _
theorem gtrK {t : TypeId} {x y : Operand} {a b : ByteArray} (ht : 0 < kcmp a b → KR (.bool true)) (hf : ¬ 0 < kcmp a b → KR (.bool false)) : DoR P c (eqG .gtr t x y (.string a) (.string b)) h L KR := by
 refine gtrS ?_;rw [bytes_beq, ByteArray.toList_eq, ByteArray.toList_eq, bytesLess_cmp];by_cases e : a = b
 · rw [decide_eq_true e, Bool.or_true]
   exact hf (by rw [kcmp_zero.2 e]; omega)
 · rw [decide_eq_false e, Bool.or_false]
   have hne : kcmp a b ≠ 0 := fun h => e (kcmp_zero.1 h)
   by_cases e2 : kcmp a b < 0
   · rw [decide_eq_true (show Lib.compareBytes a.data.toList b.data.toList < 0 from e2)]; exact hf (by omega)
   · rw [decide_eq_false (show ¬ Lib.compareBytes a.data.toList b.data.toList < 0 from e2)]; exact ht (by omega)
end
end Go.Brd
namespace Go.Brd
section
variable {P : Program} {c : World} {h : GH} {L : Own} {K : Kont} {KR : Value → Prop} {κ β : Type} [DecidableEq κ] {ks : List CK} {kf : κ → List Value} {vf : β → Value} {ok : κ → Prop} {t kt et : TypeId}
theorem run_zeroV {z : Value} (hz : zeroV P et = some z) (w : World) : (zeroValue et).run P w = .ok z w := by
 unfold zeroV at hz;unfold zeroValue;cases hi : P.info? et with
 | none => rw [hi] at hz; cases hz
 | some i =>
  rw [hi] at hz;rw [Sem.run_bind, run_info hi, Result.andThen_ok];simp only at hz;simp only [hz]; rfl
theorem map_entryA {b : Nat} {m : List (κ × β)} {k : κ} {z : β} {M : Own} (ht : P.underlying t = some (.map kt et)) (hk : KeyT P kt ks kf ok) (hok : ok k) (hm : ∀ p ∈ m, ok p.1) (hz : zeroV P et = some (vf z))
 (hL : L.Perm ((b, mapO (mapA kf vf m)) :: M))
 (hs : ∀ i v, mget k m 0 = some (i, v) → ∃ L', ((b, mapO (mapA kf vf m)) :: M : Own).Perm L' ∧ K (.tuple #[vf v, .int .i64 (i : Nat)]) h L')
 (hn : mget k m 0 = none → ∃ L', ((b, mapO (mapA kf vf (m ++ [(k, z)]))) :: M : Own).Perm L' ∧ K (.tuple #[vf z, .int .i64 (m.length : Nat)]) h L') :
 DoV P c (Instr.mapEntry t (.map (some b)) (.agg (kf k).toArray)) h L K := by
 rw [← mapV_agg (P := P) (t := kt) hk.agg] at hL hs;rw [← mapV_agg (P := P) (t := kt) hk.agg] at hn;rw [← pack_agg hk.agg];refine ⟨fun w st0 => ?_⟩;have st := Ghost.perm (h := h) hL c w st0;have hb := st.own b _ (List.mem_cons_self ..);have hchk := chkT_all (P := P) 20 kt ks hk.shp false 10000 (by decide) (kf k) (hk.fit k hok) w;have hfind := run_findKey_map (vf := vf) hk hok m hm w;cases hg : mget k m 0 with
 | none =>
  obtain ⟨L', hp, hK⟩ := hn hg;refine ⟨_, _, h, L', ?_, GH.le_refl h, Ghost.perm hp c _ (st.setObj (o' := mapO (mapV P kt kf vf (m ++ [(k, z)])))), hK⟩;unfold Instr.mapEntry;simp only [Sem.run_bind, Go.run_underlying ht, Result.andThen_ok, run_getMap hb, hchk, hfind, hg, Option.map_none, run_zeroV hz]
  have : mapO (mapV P kt kf vf (m ++ [(k, z)])) = .map ((mEnt 0 (mapV P kt kf vf m)).toArray.push { key := pack P kt (kf k), val := vf z, born := (mapV P kt kf vf m).length }) ((mapV P kt kf vf m).length + 1) := by
   unfold mapO;have e : mapV P kt kf vf (m ++ [(k, z)]) = mapV P kt kf vf m ++ [(pack P kt (kf k), vf z)] := by simp [mapV]
   rw [e, mEnt_snoc]; simp
  rw [this];rw [run_setObj (fun _ _ _ h => by cases h) hb];simp only [Result.andThen_ok, Sem.run_pure];have e2 : (mapV P kt kf vf m).length = m.length := by simp [mapV]
  rw [e2]; rfl
 | some p =>
  obtain ⟨i, u⟩ := p;obtain ⟨L', hp, hK⟩ := hs i u hg;obtain ⟨_, hget⟩ := mget_some hg;simp only [Nat.sub_zero] at hget;refine ⟨_, _, h, L', ?_, GH.le_refl h, Ghost.perm hp c _ (st.setObj (o' := mapO (mapV P kt kf vf m))), hK⟩;unfold Instr.mapEntry;simp only [Sem.run_bind, Go.run_underlying ht, Result.andThen_ok, run_getMap hb, hchk, hfind, hg, Option.map_some];have hgm : (mapV P kt kf vf m)[i]? = some (pack P kt (kf k), vf u) := by simp [mapV, hget]
  have hkey : ((mEnt 0 (mapV P kt kf vf m)).toArray[i]?.map (·.key)).getD (pack P kt (kf k)) = pack P kt (kf k) := by
   simp only [List.getElem?_toArray, mEnt_get, hgm]; rfl
  have hborn : ((mEnt 0 (mapV P kt kf vf m)).toArray[i]?.map (fun x => (x.born : Int))).getD 0 = (i : Int) := by
   simp only [List.getElem?_toArray, mEnt_get, hgm]; simp
  have hkt : (Instr.keyThatStays (pack P kt (kf k)) (pack P kt (kf k))).run P w = .ok (pack P kt (kf k)) w := by
   unfold Instr.keyThatStays;rw [sameBits_pack 9999 (hk.fit k hok) (fun e => by rw [hk.agg] at e; cases e)];rfl
  simp only [hkey, hkt, Result.andThen_ok, hborn]
  have e3 : (mEnt 0 (mapV P kt kf vf m)).toArray.modify i (fun e => { e with key := pack P kt (kf k) }) = (mEnt 0 (mapV P kt kf vf m)).toArray := by
   apply Array.ext_getElem?;intro j;rw [Array.getElem?_modify];by_cases hj : i = j
   · subst hj
     rw [if_pos rfl];simp only [List.getElem?_toArray, mEnt_get, hgm]; rfl
   · rw [if_neg hj]
  rw [e3];rw [run_setObj (fun _ _ _ h => by cases h) hb];simp only [Result.andThen_ok, Sem.run_pure];rfl
theorem entry_storeA {b i : Nat} {m : List (κ × β)} {k : κ} {u v : β} {x : Value} {M L' : Own} (hi : m[i]? = some (k, u)) (hx : x = vf v)
 (hL : L.Perm ((b, mapO (mapA kf vf m)) :: M)) (hL' : ((b, mapO (mapA kf vf (m.set i (k, v)))) :: M : Own).Perm L') (hK : K undef h L') : DoU P c (Instr.entryStore t (.map (some b)) (.int .i64 (i : Nat)) x) h L K := by
 subst hx;refine ⟨fun w st0 => ?_⟩;have st := Ghost.perm (h := h) hL c w st0;have hb := st.own b _ (List.mem_cons_self ..);refine ⟨_, h, L', ?_, GH.le_refl h, Ghost.perm hL' c _ (st.setObj (o' := mapO (mapA kf vf (m.set i (k, v))))), hK⟩;have hgm : (mapA kf vf m)[i]? = some (.agg (kf k).toArray, vf u) := by simp [mapA, hi]
 have hil := (List.getElem?_eq_some_iff.1 hi).1
 have hfi : ((mEnt 0 (mapA kf vf m)).toArray.findIdx? (fun e => (e.born : Int) == (i : Int))) = some i := by
  rw [List.findIdx?_toArray];rw [List.findIdx?_eq_some_iff_getElem];have hlen : (mEnt 0 (mapA kf vf m)).length = m.length := by rw [mEnt_length]; simp [mapA]
  have hat : ∀ j (hj : j < (mEnt 0 (mapA kf vf m)).length), (mEnt 0 (mapA kf vf m))[j].born = j := fun j hj => by
   have h1 := mEnt_get 0 (mapA kf vf m) j;rw [List.getElem?_eq_getElem hj] at h1;cases hp : (mapA kf vf m)[j]? with
   | none => rw [hp] at h1; cases h1
   | some p => rw [hp] at h1; simp at h1; rw [h1]
  refine ⟨by omega, by simp [hat], fun j hj => ?_⟩;simp [hat]; omega
 unfold Instr.entryStore;have hasI : ∀ w : World, (asInt (Value.int .i64 (i : Nat))).run P w = .ok (i : Int) w := fun w => rfl
 simp only [Sem.run_bind, run_getMap hb, Result.andThen_ok, hasI, hfi]
 have e4 : mapO (mapA kf vf (m.set i (k, v))) = .map ((mEnt 0 (mapA kf vf m)).toArray.modify i fun e => { e with val := vf v }) (mapA kf vf m).length := by
  unfold mapO;have e5 : mapA kf vf (m.set i (k, v)) = (mapA kf vf m).set i (.agg (kf k).toArray, vf v) := by simp [mapA, List.map_set]
  rw [e5, List.length_set];congr 1
  apply Array.ext_getElem?;intro j;rw [Array.getElem?_modify];simp only [List.getElem?_toArray, mEnt_get, List.getElem?_set];by_cases hj : i = j
  · subst hj
    have : i < (mapA kf vf m).length := by simp [mapA]; exact hil
    have h7 : (mapA kf vf m)[i] = (Value.agg (kf k).toArray, vf u) := (List.getElem?_eq_some_iff.1 hgm).2;simp [this, h7]
  · simp [hj]
 rw [e4];exact run_setObj (fun _ _ _ h => by cases h) hb
end
end Go.Brd
namespace Go.Brd
def Fz (h : GH) (b : Nat) (o : Obj) : Prop := h b = some o
theorem Fz.mono {h h' : GH} {b : Nat} {o : Obj} (hle : GH.le h h') (r : Fz h b o) : Fz h' b o := hle b o r
section
variable {P : Program} {c : World} {h : GH} {L : Own} {K : Kont}
theorem entry_map {b r i : Nat} {m : List (Value × Value)} {seen : List Nat} {p : Value × Value} {M : Own} (hL : L.Perm ((r, iterO b m.length (seen ++ [i])) :: M)) (hh : Has h M b (mapO m)) (hp : m[i]? = some p) (hk : K (.tuple #[p.1, p.2]) h L) : DoV P c (Instr.entry (.pointer (some ⟨r, 0, none⟩))) h L K := by
 refine ⟨fun w st0 => ?_⟩;have st := Ghost.perm (h := h) hL c w st0;have hr := st.own r _ (List.mem_cons_self ..);have hb := hh.get (GH.le_refl h) (fun e he => List.mem_cons_of_mem _ he) st;have hgr : (getObj r).run P w = .ok (.mapIter (some b) m.length (seen ++ [i]).toArray m.length) w := run_getObj (fun _ _ _ x => by cases x) hr;have hgb := run_getMap (P := P) hb;refine ⟨_, w, h, L, ?_, GH.le_refl h, st0, hk⟩
 have hf : (mEnt 0 m).toArray.find? (fun e => e.born == i) = some { key := p.1, val := p.2, born := i } := by
  rw [List.find?_toArray, List.find?_eq_some_iff_getElem];have h1 := mEnt_get 0 m i;rw [hp] at h1;simp only [Option.map_some, Nat.zero_add] at h1;obtain ⟨hi, e1⟩ := List.getElem?_eq_some_iff.1 h1;refine ⟨by simp, i, hi, e1, fun j hj => ?_⟩;have h2 := mEnt_get 0 m j;rw [List.getElem?_eq_getElem (by omega)] at h2;cases hq : m[j]? with
  | none => rw [hq] at h2; cases h2
  | some q => rw [hq] at h2; simp at h2; simp [h2]; omega
 unfold Instr.entry;simp only [Sem.run_bind, hgr, Result.andThen_ok];have hbk : (seen ++ [i]).toArray.back? = some i := by simp
 simp only [hbk, Sem.run_bind, hgb, Result.andThen_ok];simp only [bne_self_eq_false, Bool.false_eq_true, if_false, hf];rfl
end
section
variable {κ : Type} [DecidableEq κ]
def mcnt (x : κ) (m : List (κ × Nat)) : Nat := match mget x m 0 with | some (_, v) => v | none => 0
def ment (x : κ) (m : List (κ × Nat)) : List (κ × Nat) := match mget x m 0 with | some _ => m | none => m ++ [(x, 0)]
def midx (x : κ) (m : List (κ × Nat)) : Nat := match mget x m 0 with | some (i, _) => i | none => m.length
def minc (x : κ) (m : List (κ × Nat)) : List (κ × Nat) := (ment x m).set (midx x m) (x, mcnt x m + 1)
theorem mget_app_none {x : κ} {v : Nat} : ∀ {m : List (κ × Nat)} {i : Nat}, mget x m i = none → mget x (m ++ [(x, v)]) i = some (i + m.length, v)
 | [], i, _ => by simp [mget]
 | (a, b) :: r, i, h => by
  unfold mget at h;split at h
  · cases h
  · rename_i e
    have := mget_app_none (v := v) h;simp only [List.cons_append];unfold mget;rw [if_neg e, this];simp; omega
theorem mget_ment (x : κ) (m : List (κ × Nat)) : mget x (ment x m) 0 = some (midx x m, mcnt x m) := by
 unfold ment midx mcnt;cases h : mget x m 0 with
 | none => simp only; rw [mget_app_none h]; simp
 | some p => obtain ⟨i, v⟩ := p; simp only; rw [h]
theorem mcnt_ment (x : κ) (m : List (κ × Nat)) : mcnt x (ment x m) = mcnt x m := by
 conv => lhs; unfold mcnt
 rw [mget_ment]
theorem ment_at (x : κ) (m : List (κ × Nat)) : (ment x m)[midx x m]? = some (x, mcnt x m) := by
 have := (mget_some (mget_ment x m)).2
 simpa using this
theorem ment_keys {p : κ × Nat} {x : κ} {m : List (κ × Nat)} (hp : p ∈ ment x m) : p ∈ m ∨ p = (x, 0) := by
 unfold ment at hp;split at hp
 · exact .inl hp
 · rcases List.mem_append.1 hp with h | h
   · exact .inl h
   · exact .inr (by simpa using h)
theorem nodup_idx {α : Type} {l : List α} (hn : l.Nodup) {i j : Nat} {x : α} (hi : l[i]? = some x) (hj : l[j]? = some x) : i = j := by
 obtain ⟨h1, e1⟩ := List.getElem?_eq_some_iff.1 hi;obtain ⟨h2, e2⟩ := List.getElem?_eq_some_iff.1 hj;rcases Nat.lt_trichotomy i j with h | h | h
 · exact absurd (e1.trans e2.symm) (List.pairwise_iff_getElem.1 hn i j h1 h2 h)
 · exact h
 · exact absurd (e2.trans e1.symm) (List.pairwise_iff_getElem.1 hn j i h2 h1 h)
def cntL (l : List κ) (x : κ) : Nat := l.count x
theorem cntL_le (l : List κ) (x : κ) : cntL l x ≤ l.length := List.count_le_length
theorem cntL_two {a b : List κ} (ha : a.Nodup) (hb : b.Nodup) (x : κ) : cntL (a ++ b) x = 2 ↔ x ∈ a ∧ x ∈ b := by
 unfold cntL;rw [List.count_append];have h1 : a.count x = if x ∈ a then 1 else 0 := ha.count
 have h2 : b.count x = if x ∈ b then 1 else 0 := hb.count
 rw [h1, h2];by_cases e1 : x ∈ a <;> by_cases e2 : x ∈ b <;> simp [e1, e2]
structure Cnt (l : List κ) (m : List (κ × Nat)) : Prop where
 nd : (m.map Prod.fst).Nodup
 cnt : ∀ p ∈ m, p.2 = cntL l p.1 ∧ p.1 ∈ l
 all : ∀ x ∈ l, x ∈ m.map Prod.fst
theorem Cnt.nil : Cnt ([] : List κ) [] := ⟨List.nodup_nil, by simp, by simp⟩
theorem Cnt.mcnt {l : List κ} {m : List (κ × Nat)} (h : Cnt l m) (x : κ) : mcnt x m = cntL l x := by
 unfold Brd.mcnt;cases hg : mget x m 0 with
 | none =>
  simp only;have := mget_none.1 hg;exact (List.count_eq_zero.2 (fun hx => this (h.all x hx))).symm
 | some p => obtain ⟨i, v⟩ := p; exact (h.cnt _ (mget_mem hg)).1
theorem Cnt.inc {l : List κ} {m : List (κ × Nat)} (h : Cnt l m) (x : κ) : Cnt (l ++ [x]) (minc x m) := by
 have hat := ment_at x m;obtain ⟨hil, _⟩ := List.getElem?_eq_some_iff.1 hat
 have hkeys : (minc x m).map Prod.fst = (ment x m).map Prod.fst := by
  unfold minc;rw [List.map_set];apply List.ext_getElem?;intro j;rw [List.getElem?_set];by_cases hj : midx x m = j
  · subst hj
    rw [if_pos rfl, List.getElem?_map, hat]; simp [hil]
  · rw [if_neg hj]
 have hnd : ((ment x m).map Prod.fst).Nodup := by
  unfold ment;cases hg : mget x m 0 with
  | some p => exact h.nd
  | none =>
   simp only [List.map_append, List.map_cons, List.map_nil];rw [List.nodup_append];refine ⟨h.nd, by simp, fun a ha b hb e => ?_⟩;simp at hb;subst hb; subst e;exact mget_none.1 hg ha
 have hmc := h.mcnt x;refine ⟨by rw [hkeys]; exact hnd, fun p hp => ?_, fun y hy => ?_⟩
 · obtain ⟨j, hj, rfl⟩ := List.getElem_of_mem hp
   have h1 : (minc x m)[j]? = some (minc x m)[j] := List.getElem?_eq_getElem hj
   generalize (minc x m)[j] = p at h1 ⊢
   unfold minc at h1;rw [List.getElem?_set] at h1;by_cases hij : midx x m = j
   · rw [if_pos hij, if_pos (by omega)] at h1
     cases h1;simp only;rw [hmc]; unfold cntL; rw [List.count_append]; simp
   · rw [if_neg hij] at h1
     have hne : p.1 ≠ x := fun e => by
      have h2 : ((ment x m).map Prod.fst)[j]? = some x := by rw [List.getElem?_map, h1]; simp [e]
      have h3 : ((ment x m).map Prod.fst)[midx x m]? = some x := by rw [List.getElem?_map, hat]; rfl
      exact hij (nodup_idx hnd h3 h2)
     rcases ment_keys (List.mem_of_getElem? h1) with hm | hm
     · have := h.cnt p hm
       refine ⟨?_, by simp [this.2]⟩;rw [this.1]; unfold cntL; rw [List.count_append, (List.count_eq_zero (a := p.1) (l := [x])).2 (by simpa using hne)]; rfl
     · rw [hm] at hne; exact absurd rfl hne
 · rw [hkeys]
   rcases List.mem_append.1 hy with hy | hy
   · have := h.all y hy
     unfold ment;split
     · exact this
     · rw [List.map_append]; exact List.mem_append_left _ this
   · have : y = x := by simpa using hy
     subst this;have h3 : ((ment y m).map Prod.fst)[midx y m]? = some y := by rw [List.getElem?_map, hat]; rfl
     exact List.mem_of_getElem? h3
end
section
variable {P : Program} {c : World} {h : GH} {L : Own} {K : Kont} {KR : Value → Prop} {κ : Type} [DecidableEq κ] {ks : List CK} {kf : κ → List Value} {vf : Nat → Value} {ok : κ → Prop} {t kt et : TypeId}
theorem lookup_cnt {b : Nat} {m : List (κ × Nat)} {k : κ} (ht : P.underlying t = some (.map kt et)) (hk : KeyT P kt ks kf ok) (hok : ok k) (hm : ∀ p ∈ m, ok p.1) (hz : zeroV P et = some (vf 0))
 (hh : Has h L b (mapO (mapA kf vf m))) (hs : KR (vf (mcnt k m))) : DoR P c (Instr.lookup t (.map (some b)) (.agg (kf k).toArray) false) h L KR := by
 refine lookup_mapA ht hk hok hm hz hh (fun i v hg => ?_) (fun hg => ?_)
 · unfold mcnt at hs; rw [hg] at hs; exact hs
 · unfold mcnt at hs; rw [hg] at hs; exact hs
theorem entry_cnt {b : Nat} {m : List (κ × Nat)} {k : κ} {M : Own} (ht : P.underlying t = some (.map kt et)) (hk : KeyT P kt ks kf ok) (hok : ok k) (hm : ∀ p ∈ m, ok p.1) (hz : zeroV P et = some (vf 0))
 (hL : L.Perm ((b, mapO (mapA kf vf m)) :: M)) (hs : ∃ L', ((b, mapO (mapA kf vf (ment k m))) :: M : Own).Perm L' ∧ K (.tuple #[vf (mcnt k m), .int .i64 (midx k m : Nat)]) h L') :
 DoV P c (Instr.mapEntry t (.map (some b)) (.agg (kf k).toArray)) h L K := by
 refine map_entryA ht hk hok hm hz hL (fun i v hg => ?_) (fun hg => ?_)
 · unfold ment mcnt midx at hs; rw [hg] at hs; exact hs
 · unfold ment mcnt midx at hs; rw [hg] at hs; exact hs
end
end Go.Brd
namespace Go.Brd
section
variable {P : Program} {c : World} {N : Nat} {s : Fr} {h : GH} {L : Own}
theorem DoDraw.freeze {ops : Array Oper} {Q : Post} {E sz : Nat} {v : Value} {ls : List (List Value)} {M N' : Own} (sv : OS E sz v ls N') (hsm : ls.length < 2 ^ 62) (hL : L.Perm (N' ++ M)) (hk : ∀ h', GH.le h h' → Sl h' v sz ls → DoDraw P c N ops s h' M Q) : DoDraw P c N ops s h L Q := by
 obtain ⟨h', hf⟩ := sv.freeze (L := M) (h := h) hsm;refine ⟨fun a w t R ha st hR => ?_⟩;obtain ⟨st', hle, hsl⟩ := hf c w (Ghost.perm hL c w st);exact (hk h' hle hsl).run a w t R ha st' (fun a' w' s' h2 L2 h1 h3 h4 h5 => hR a' w' s' h2 L2 h1 (GH.le_trans hle h3) h4 h5)
theorem DoDraw.freezeBox {ops : Array Oper} {Q : Post} {b : Nat} {o : Obj} {M : Own} (hL : L.Perm ((b, o) :: M)) (hk : ∀ h', GH.le h h' → h' b = some o → DoDraw P c N ops s h' M Q) : DoDraw P c N ops s h L Q := by
 refine ⟨fun a w t R ha st hR => ?_⟩;have st1 := Ghost.perm (h := h) hL c w st;have hb := st1.free;exact (hk (h.ins b o) (GH.le_ins hb) (GH.ins_same h b o)).run a w t R ha (Ghost.freeze h M b o c w st1) (fun a' w' s' h2 L2 h1 h3 h4 h5 => hR a' w' s' h2 L2 h1 (GH.le_trans (GH.le_ins hb) h3) h4 h5)
end
end Go.Brd
namespace Go.Brd
open Go Go.Proofs Go.Sort Go.Shelf
theorem plain_enters {P : Program} {n : FuncId} (hp : plain P n = true) (args : Array Value) (w : World) : (callFunc n args).run P w = .ok (.enter n args) w := by
 unfold plain at hp;cases hfn : P.funcs[n]? with
 | none => rw [hfn] at hp; cases hp
 | some fn =>
  rw [hfn] at hp;simp only [Bool.and_eq_true, Bool.not_eq_true', beq_eq_false_iff_ne] at hp;have hb : fn.body.isNone = false := by cases hb : fn.body <;> simp_all
  simp only [callFunc, program];show (Sem.run P _ w) = _;have hnm : (fn.name == "runtime.NumGoroutine") = false := by simp [hp.2]
  simp only [bind, pure, Sem.bind, Sem.run, hfn, hnm, hb, if_false, Bool.false_eq_true]
theorem world_grown {w w' : World} (hh : ∀ (b : Nat) (o : Obj), w.heap[b]? = some o → w'.heap[b]? = some o) (hos : w'.os = w.os) (ht : w'.tape = w.tape) (hout : w'.output = w.output) (hd : w.drawn ≤ w'.drawn) : ∃ q os', w' = Go.Sort.grow (w.drewN q) os' := by
 refine ⟨w'.drawn - w.drawn, w'.heap.extract w.heap.size w'.heap.size, ?_⟩
 have hsz : w.heap.size ≤ w'.heap.size := by
  rcases Nat.lt_or_ge w'.heap.size w.heap.size with h | h
  · have h1 := hh w'.heap.size w.heap[w'.heap.size] (by simp [h])
    simp at h1
  · exact h
 have he : w'.heap = w.heap ++ w'.heap.extract w.heap.size w'.heap.size := by
  apply Array.ext_getElem?;intro i;rw [Array.getElem?_append];split
  · rename_i hi
    have h1 := hh i w.heap[i] (by simp [hi]);rw [h1]; simp [hi]
  · rename_i hi
    rw [Array.getElem?_extract];simp only [Nat.not_lt] at hi;by_cases h2 : i < w'.heap.size
    · rw [if_pos (by omega)]; congr 1; omega
    · rw [if_neg (by omega), Array.getElem?_eq_none (by omega)]
 have hdr : w.drawn + (w'.drawn - w.drawn) = w'.drawn := by omega
 cases w' with
 | mk heap tape drawn os output =>
  simp only at hos ht hout he hdr ⊢;subst hos ht hout;show _ = ({ heap := w.heap ++ _, tape := w.tape, drawn := w.drawn + _, os := w.os, output := w.output } : World);rw [← he, hdr]
theorem cmpLays_of {P : Program} {α : Type} [Inhabited α] {g : Nat} {enc : α → List Value} {k : Nat} {cf : α → α → Int}
 (hf : ∀ (c : World) (h : GH) (x y : α), Fun P c g #[.agg (enc x).toArray, .agg (enc y).toArray] h [] (fun u _ L' => u = .int .i64 (cf x y) ∧ ([] : Own) = L')) (blk off size : Nat) (w : World) : CmpLays P g #[] enc k cf blk off size w := by
 intro m os dk hdk x y
 generalize sortWorldK enc k w blk off m dk os = W
 have st : St W (fun b => W.heap[b]?) [] W := ⟨rfl, rfl, rfl, fun _ _ e => e, by simp, by simp, by simp, Nat.le_refl _⟩;have hr := (hf W (fun b => W.heap[b]?) x y).run W st;simp only [Array.append_empty];refine hr.mono ?_;rintro e w' ⟨v, h', L', he, hle, st', hv, _⟩;exact ⟨by rw [he, hv], world_grown (fun b o e => st'.gh b o (hle b o e)) st'.os st'.tape st'.output st'.dr⟩
theorem one_cell' (v : Value) : v.oneCell' = oneCell v := by cases v <;> rfl
theorem St.grow {c : World} {h : GH} {L : Own} {w : World} (s : St c h L w) (os : Array Obj) : St c h L (Go.Sort.grow w os) := by
 have key : ∀ (b : Nat) (o : Obj), w.heap[b]? = some o → (Go.Sort.grow w os).heap[b]? = some o := fun b o e => by
  show (w.heap ++ os)[b]? = some o;rw [Array.getElem?_append]
  have : b < w.heap.size := by
   rcases Nat.lt_or_ge b w.heap.size with h | h
   · exact h
   · rw [Array.getElem?_eq_none h] at e; cases e
  rw [if_pos this]; exact e
 exact ⟨s.os, s.tape, s.output, fun b o e => key b o (s.gh b o e), fun b o hm => key b o (s.own b o hm), s.sep, s.nd, s.dr⟩
theorem St.ahead {c : World} {h : GH} {L : Own} {w : World} (s : St c h L w) (n : Nat) : St c h L (Go.Sort.ahead w n) := ⟨s.os, s.tape, s.output, s.gh, s.own, s.sep, s.nd, Nat.le_trans s.dr (Nat.le_add_right _ _)⟩
theorem flatK_list {α : Type} [Inhabited α] {enc : α → List Value} {k : Nat} (hk0 : 0 < k) (hk : ∀ x, (enc x).length = k) (d : Array α) : (flatK enc k d).toList = (d.toList.map enc).flatten := by
 have hs : ∀ l ∈ d.toList.map enc, l.length = k := fun l hl => by obtain ⟨x, _, rfl⟩ := List.mem_map.1 hl; exact hk x
 have hlen : ((d.toList.map enc).flatten).length = d.size * k := by rw [flatten_length hs]; simp
 apply List.ext_getElem?;intro t;rcases Nat.lt_or_ge t (d.size * k) with ht | ht
 · have h1 : (flatK enc k d).toList[t]? = some ((flatK enc k d)[t]!) := by
    rw [Array.getElem?_toList, Array.getElem?_eq_getElem (by simpa using ht), getElem!_pos _ t (by simpa using ht)]
   rw [h1, get_flatK enc k d t ht];have hq : t / k < d.size := Nat.div_lt_of_lt_mul (by rw [Nat.mul_comm]; exact ht)
   obtain ⟨r, hr⟩ := flatten_at hs (k := t / k) (l := enc d[t / k]!) (by
    rw [List.getElem?_map, Array.getElem?_toList, Array.getElem?_eq_getElem hq, getElem!_pos d (t / k) hq]; rfl)
   have ht2 : t = t / k * k + t % k := by rw [Nat.mul_comm]; exact (Nat.div_add_mod t k).symm
   have hm : t % k < k := Nat.mod_lt _ hk0;have h2 : ((d.toList.map enc).flatten)[t]? = ((d.toList.map enc).flatten.drop (t / k * k))[t % k]? := by rw [List.getElem?_drop, ← ht2]
   rw [h2, hr, List.getElem?_append_left (by rw [hk]; exact hm)];rw [List.getElem?_eq_getElem (by rw [hk]; exact hm), getElem!_pos _ _ (by rw [hk]; exact hm)]
 · rw [List.getElem?_eq_none (by simpa using ht), List.getElem?_eq_none (by omega)]
section
variable {P : Program} {ρ : Ren} {α : Type} [Inhabited α]
theorem sortFunc_fun (L0 : SlLaysF0.n6 P ρ) (hpl : plain P (ρ.f 6) = true) {k : Nat} (ag : aggN P (ρ.t 24) k = true) (hk0 : 0 < k) {enc : α → List Value} (hk : ∀ x, (enc x).length = k) (h1 : ∀ x, ∀ v ∈ enc x, v.oneCell' = true)
 {cf : α → α → Int} (hO : SWO (ltOf cf)) {g : Nat} (hg : plain P g = true)
 (hf : ∀ (c : World) (h : GH) (x y : α), Fun P c g #[.agg (enc x).toArray, .agg (enc y).toArray] h [] (fun u _ L' => u = .int .i64 (cf x y) ∧ ([] : Own) = L'))
 {c : World} {h : GH} {E : Nat} {v : Value} {xs : List α} {N M : Own} (hv : OS E k v (xs.map enc) N) (hsm : xs.length < 4611686018427387904) :
 Fun P c (ρ.f 6) #[v, .func (.func g) #[] #[]] h (N ++ M) (fun _ _ L' => ∃ (N' : Own) (ys : List α), L' = N' ++ M ∧ ys.Perm xs ∧ SortedIn (ltOf cf) 0 ys.length ys.toArray ∧ OS E k v (ys.map enc) N') := by
 refine ⟨hpl, fun w st => ?_⟩;rcases hv.is with ⟨rfl, hn, rfl⟩ | ⟨b, rest, cap, rfl, rfl, hc, hle, hc2⟩
 · have hx : xs = [] := by cases xs with
    | nil => rfl
    | cons a r => cases hn
   subst hx;refine (AnyF.slices_SortFunc_none L0 none 0 _ w).mono ?_;rintro e w' ⟨rfl, rfl⟩;exact ⟨_, h, _, rfl, GH.le_refl _, st, [], [], rfl, .refl _, fun i j _ _ hj => by simp at hj, hv⟩
 · have hbw := st.own b _ (List.mem_cons_self ..)
   have hblk : b < w.heap.size := by
    rcases Nat.lt_or_ge b w.heap.size with h | h
    · exact h
    · rw [Array.getElem?_eq_none h] at hbw; cases hbw
   have hflen : (flatK enc k xs.toArray).toList = (xs.map enc).flatten := flatK_list hk0 hk _
   have hH : HoldsK enc k w b 0 xs.toArray := by
    intro j hj;rw [size_flatK] at hj;have hj2 : j < ((xs.map enc).flatten).length := by rw [← hflen]; simpa using hj
    have hg : (flatK enc k xs.toArray)[j]! = ((xs.map enc).flatten)[j] := by
     rw [getElem!_pos _ j (by simpa using hj)];have h3 : (flatK enc k xs.toArray).toList[j]? = ((xs.map enc).flatten)[j]? := by rw [hflen]
     rw [Array.getElem?_toList, Array.getElem?_eq_getElem (by simpa using hj), List.getElem?_eq_getElem hj2] at h3;exact Option.some.inj h3
    constructor
    · unfold World.cell?
      simp only [hbw, Nat.zero_add, Option.isSome_none, Bool.false_eq_true, if_false];rw [hg];simp only [List.getElem?_toArray];rw [List.getElem?_append_left hj2, List.getElem?_eq_getElem hj2]; rfl
    · exact frozen_own hbw
   have hcmp : CmpLays P g #[] enc k cf b 0 xs.toArray.size w := cmpLays_of hf b 0 _ w;have hsz : aggN P (ρ.t 24) k = true := ag;have hlen : (xs.map enc).length = xs.toArray.size := by simp
   rw [hlen];refine (AnyQ.slices_SortFunc L0 k (fun w => run_isAgg_true ag w) (fun w => run_sizeOf (aggN_size ag) w) enc hk h1 cf hO g #[] b 0 cap xs.toArray w (plain_enters hg) hcmp hH hblk (by simpa using hsm)).mono ?_;rintro e w' ⟨rfl, d', n, os, hp, hs, rfl⟩;have hdsz : d'.size = xs.length := by have := hp.1; simpa using this
   have hperm : d'.toList.Perm xs := by
    have h3 := hp.2.2;have e1 : d'.extract 0 xs.toArray.size = d' := by rw [← hp.1]; exact Array.extract_size
    have e2 : xs.toArray.extract 0 xs.toArray.size = xs.toArray := Array.extract_size;rw [e1, e2] at h3
    simpa using h3
   have hfl2 : (flatK enc k d').toList = (d'.toList.map enc).flatten := flatK_list hk0 hk _
   have hput : putRowK enc k (Go.Sort.ahead w n) b 0 d' = { Go.Sort.ahead w n with heap := (Go.Sort.ahead w n).heap.setIfInBounds b (.cells ((d'.toList.map enc).flatten ++ rest).toArray E (0, 0)) } := by
    unfold putRowK putRow mapBlock;congr 1
    apply Array.ext_getElem?;intro i;rw [Array.getElem?_modify, Array.getElem?_setIfInBounds];by_cases hi : b = i
    · subst hi
      rw [if_pos rfl, if_pos rfl, if_pos (show b < (Go.Sort.ahead w n).heap.size from hblk)];show Option.map _ w.heap[b]? = _;rw [hbw];simp only [Option.map_some, onCells];congr 2
      apply Array.ext_getElem?;intro j;unfold putCells;rw [Array.getElem?_mapIdx];have hF : (flatK enc k d').size = xs.length * k := by rw [size_flatK, hdsz]
      have hl1 : ((xs.map enc).flatten).length = xs.length * k := by rw [← hflen]; simp
      have hl2 : ((d'.toList.map enc).flatten).length = xs.length * k := by rw [← hfl2]; simp [hdsz]
      simp only [List.getElem?_toArray, Nat.zero_le, true_and, Nat.zero_add, Nat.sub_zero, id];rcases Nat.lt_or_ge j (xs.length * k) with hj | hj
      · rw [List.getElem?_append_left (by omega), List.getElem?_append_left (by omega), List.getElem?_eq_getElem (by omega), Option.map_some, if_pos (by omega), ← hfl2, Array.getElem?_toList, Array.getElem?_eq_getElem (by omega), getElem!_pos _ j (by omega)]
      · rw [List.getElem?_append_right (by omega), List.getElem?_append_right (by omega), hl1, hl2]
        cases rest[j - xs.length * k]? with
        | none => rfl
        | some z => rw [Option.map_some, if_neg (by omega)]
    · rw [if_neg hi, if_neg hi]
   refine ⟨_, h, (b, .cells ((d'.toList.map enc).flatten ++ rest).toArray E (0, 0)) :: M, rfl, GH.le_refl _, ?_, [(b, .cells ((d'.toList.map enc).flatten ++ rest).toArray E (0, 0))], d'.toList, rfl, hperm, ?_, ?_⟩
   · unfold sortWorldK
     rw [hput];exact ((st.ahead n).setObj).grow os
   · intro i j _ hij hj
     have := hs i j (Nat.zero_le _) hij (by simp at hj ⊢; omega)
     simpa using this
   · refine ⟨fun l hl => by obtain ⟨x, _, rfl⟩ := List.mem_map.1 hl; exact hk x, fun l hl => by
      obtain ⟨x, _, rfl⟩ := List.mem_map.1 hl;exact List.all_eq_true.2 fun v hv => by rw [← one_cell']; exact h1 x v hv, .inr ⟨b, rest, cap, ?_, rfl, ?_, ?_, hc2⟩⟩
     · simp [hdsz]
     · simp [hdsz] at hc ⊢; exact hc
     · simp [hdsz] at hle ⊢; exact hle
end
end Go.Brd
namespace Go.Brd
open Go Go.Proofs Go.Sort Go.Shelf
theorem swo_of {α : Type} [Inhabited α] {cf : α → α → Int} (flip : ∀ x y, cf y x = - cf x y) (trans : ∀ x y z, cf x y < 0 → cf y z < 0 → cf x z < 0) (zero : ∀ x y, cf x y = 0 → ∀ z, cf x z = cf y z) : SWO (ltOf cf) := by
 refine ⟨fun x => ?_, fun x y z h1 h2 => ?_, fun x y z h1 h2 => ?_⟩
 · have := flip x x; exact decide_eq_false (by omega)
 · exact decide_eq_true (trans x y z (of_decide_eq_true h1) (of_decide_eq_true h2))
 · have h1 := of_decide_eq_false h1
   have h2 := of_decide_eq_false h2;refine decide_eq_false fun h3 => ?_
   have h4 := flip x y;by_cases h5 : cf x y = 0
   · rw [zero x y h5 z] at h3; exact h2 h3
   · exact h2 (trans y x z (by omega) h3)
theorem sortFunc_on {P : Program} {ρ : Ren} {α : Type} {ok : α → Prop} (L0 : SlLaysF0.n6 P ρ) (hpl : plain P (ρ.f 6) = true) {k : Nat} (ag : aggN P (ρ.t 24) k = true) (hk0 : 0 < k) (a0 : α) (hok0 : ok a0) {enc : α → List Value} (hk : ∀ x, ok x → (enc x).length = k) (h1 : ∀ x, ok x → (enc x).all oneCell = true)
 {cf : α → α → Int} (flip : ∀ x y, cf y x = - cf x y) (trans : ∀ x y z, cf x y < 0 → cf y z < 0 → cf x z < 0) (zero : ∀ x y, cf x y = 0 → ∀ z, cf x z = cf y z) {g : Nat} (hg : plain P g = true)
 (hf : ∀ (c : World) (h : GH) (x y : α), ok x → ok y → Fun P c g #[.agg (enc x).toArray, .agg (enc y).toArray] h [] (fun u _ L' => u = .int .i64 (cf x y) ∧ ([] : Own) = L'))
 {c : World} {h : GH} {E : Nat} {v : Value} {xs : List α} {N M : Own} (hxs : ∀ x ∈ xs, ok x) (hv : OS E k v (xs.map enc) N) (hsm : xs.length ≤ 1000) :
 Fun P c (ρ.f 6) #[v, .func (.func g) #[] #[]] h (N ++ M) (fun _ _ L' => ∃ N', L' = N' ++ M ∧ ∃ ys : List α, ys.Perm xs ∧ ys.Pairwise (fun a b => ¬ cf b a < 0) ∧ OS E k v (ys.map enc) N') := by
 have hin : Inhabited {x // ok x} := ⟨⟨a0, hok0⟩⟩;have e1 : (xs.pmap Subtype.mk hxs).map Subtype.val = xs := by rw [List.map_pmap]; simp
 have e2 : (xs.pmap (Subtype.mk (p := ok)) hxs).map (fun x => enc x.1) = xs.map enc := by
  conv => rhs; rw [← e1]
  rw [List.map_map]; rfl
 have hO : SWO (ltOf fun x y : {x // ok x} => cf x.1 y.1) := swo_of (fun x y => flip x.1 y.1) (fun x y z => trans x.1 y.1 z.1) (fun x y h z => zero x.1 y.1 h z.1)
 have := sortFunc_fun (α := {x // ok x}) L0 hpl ag hk0 (enc := fun x => enc x.1) (fun x => hk x.1 x.2) (fun x v hv => by rw [one_cell']; exact List.all_eq_true.1 (h1 x.1 x.2) v hv) hO hg (fun c h x y => hf c h x.1 y.1 x.2 y.2)
  (c := c) (h := h) (E := E) (v := v) (xs := xs.pmap Subtype.mk hxs) (N := N) (M := M) (by rw [e2]; exact hv) (by simp; omega)
 refine this.mono ?_;rintro u h' L' _ ⟨N', ys, rfl, hp, hs, ho⟩;refine ⟨N', rfl, ys.map Subtype.val, ?_, ?_, ?_⟩
 · have := hp.map Subtype.val; rw [e1] at this; exact this
 · rw [List.pairwise_map, List.pairwise_iff_getElem]
   intro i j hi hj hij;have := hs i j (Nat.zero_le _) hij hj;simp only [ltOf, List.getElem!_toArray] at this;have h3 := of_decide_eq_false this;rw [getElem!_pos ys j hj, getElem!_pos ys i hi] at h3;exact h3
 · rw [List.map_map]; exact ho
end Go.Brd
namespace Go.Brd
theorem aa {p : Prop} (h : p := by assumption) : p := h
theorem ab {p : Prop} (h : p := by first | exact Nat.le_of_ble_eq_true rfl | (simp [over_length]; done) | (simp [over_length]; omega)) : p := h
theorem ac {p : Prop} (h : p := by first | exact Sl.cells (by assumption) | exact OS.cells (by assumption) | rfl) : p := h
theorem ad {p : Prop} (h : p := by first | rfl | exact idC_one _ | exact one1 (Sl.one (by assumption)) | exact one1 (OS.one (by assumption))) : p := h
theorem ae {p : Prop} (h : p := by decide +kernel) : p := h
theorem af {p : Prop} (h : p := by omega) : p := h
theorem ag {p : Prop} (h : p := by first | rfl | assumption) : p := h
theorem ah {p : Prop} (h : p := by decide) : p := h
theorem ai {p : Prop} (h : p := by first | rfl | assumption | (simp; done)) : p := h
theorem aj {p : Prop} (h : p := by first | rfl | assumption | exact idC_one _ | exact opC_one2 (Sl.one (by assumption))) : p := h
theorem ak {p : Prop} (h : p := by unfold InI64; omega) : p := h
theorem al {p : Prop} (h : p := by rw [List.length_map]; omega) : p := h
theorem am {p : Prop} (h : p := by simp) : p := h
theorem an {p : Prop} (h : p := by first | rfl | (simp [*]; done)) : p := h
theorem ao {p : Prop} (h : p := by first | rfl | omega) : p := h
theorem ap {p : Prop} (h : p := by first | decide | omega) : p := h
theorem aq {p : Prop} (h : p := by rw [List.length_map]; exact Nat.lt_of_le_of_lt (numB_len _) (by decide)) : p := h
theorem ar {p : Prop} (h : p := by simp; omega) : p := h
end Go.Brd
namespace Go.Brd
section
variable {α : Type} {a b : α} {l l1 l2 : List α}
theorem kR : l.Perm l := List.Perm.refl l
theorem kS : l.Sublist l := List.Sublist.refl l
theorem kH : a ∈ a :: l := List.Mem.head l
theorem kT (h : a ∈ l) : a ∈ b :: l := List.Mem.tail b h
theorem zq (h : a ∈ l2) : a ∈ l1 ++ l2 := List.mem_append_right l1 h
theorem zc (h : l1.Perm l2) : (a :: l1).Perm (a :: l2) := h.cons a
theorem za (h : l1.Perm l2) : (l ++ l1).Perm (l ++ l2) := h.append_left l
theorem zw : (b :: a :: l).Perm (a :: b :: l) := List.Perm.swap a b l
theorem zm : (l1 ++ a :: l2).Perm (a :: (l1 ++ l2)) := List.perm_middle
theorem zu (h : l1.Sublist l2) : l1.Sublist (a :: l2) := h.cons a
theorem zv (h : l1.Sublist l2) : (a :: l1).Sublist (a :: l2) := h.cons_cons a
end
theorem qy {i : Nat} {v : Value} {r : List Value} {ps : List (Nat × Value)} {qs : List (Nat × List Value)} (hv : v.cells = r.toArray) (h : Parts ps qs) : Parts ((i, v) :: ps) ((i, r) :: qs) := Parts.cons hv h
theorem zg {h : GH} {L : Own} : Ghost h L h L := Ghost.refl h L
theorem zl {h : GH} : GH.le h h := GH.le_refl h
theorem zf {s : Fr} : Fr.Sub s s := Fr.Sub.refl s
theorem ze {P : Program} {c : World} {t : Tmp} {s : Fr} {h : GH} {L : Own} {K : Kont} {v : Value} (hv : Fr.get s t = some v) (hk : K v h L) : DoRet [.tmp t] s h L P c K := DoRet.tmp hv zg zl hk
section
variable {P : Program} {c : World} {N : Nat} {f : FuncId} {fn : Func} {k : Code} {args : List Value} {h : GH} {L : Own} {K : Kont}
theorem zA (hf : P.funcs[f]? = some fn) (hv : vc P c N k (initFr 0 args) h L (endQ P c fn.results.toList K)) (hb : fn.body = some k := by rfl) (hN : fn.ntmps = N := by rfl) (hlen : args.length ≤ N := by exact Nat.le_of_ble_eq_true rfl) (hnm : (fn.name == "runtime.NumGoroutine") = false := by decide) (hok : slotsOk N k = true := by decide +kernel) : Fun P c f args.toArray h L K := Fun.of_vc hf hb hN hlen hnm hok hv
theorem zS (hf : P.funcs[f]? = some fn) (hv : vcS P c N k (initFr 0 args) h L (endQ P c fn.results.toList K)) (hb : fn.body = some k := by rfl) (hN : fn.ntmps = N := by rfl) (hlen : args.length ≤ N := by exact Nat.le_of_ble_eq_true rfl) (hnm : (fn.name == "runtime.NumGoroutine") = false := by decide) (hok : slotsOk N k = true := by decide +kernel) : Fun P c f args.toArray h L K := Fun.of_vcS hf hb hN hlen hnm hok hv
theorem kF (hf : P.funcs[f]? = some fn) (hv : vcT P c N k (initFr 0 args) h L (endQ P c fn.results.toList K)) (hb : fn.body = some k := by rfl) (hN : fn.ntmps = N := by rfl) (hlen : args.length ≤ N := by exact Nat.le_of_ble_eq_true rfl) (hnm : (fn.name == "runtime.NumGoroutine") = false := by decide) (hok : slotsOk N k = true := by decide +kernel) : Fun P c f args.toArray h L K := Fun.of_vcT hf hb hN hlen hnm hok hv
end
theorem zn {p : Prop} (h : p := by repeat (first | refine .cons rfl ?_ | exact .nil _)) : p := h
theorem zX0 {p : Prop} (h : p := by repeat' first | omega | assumption | exact Nat.mod_lt _ ah | exact rotr_lt aa | apply Nat.xor_lt_two_pow (n := 32) | exact Nat.lt_of_le_of_lt (Nat.div_le_self _ _) aa | exact Nat.and_lt_two_pow (n := 32) _ aa) : p := h
end Go.Brd
