/- PmF: plain operations, continued: stores, numbers, texts. -/
import Derived.Test.YtmcogjekcefjoaaGreatDoorPmE
namespace Go.Pm
open Go
section
variable {P : Program} {β : Base} {σ : Sig} {K : Bool → Nat → Prop} {w w' : World} {m m' : Mem} {v : AV} {ρ : Operand → Value}
theorem Done.skip (hrel : Rel β K σ m' w') (hK : ∀ p b, K p b → w'.heap[b]? = w.heap[b]?) : Done β K σ w m' .any (.ok .skip w') :=
  ⟨w', σ, undef, _, rfl, .inr ⟨rfl, rfl⟩, List.prefix_refl _, by simp [VR], hrel, hK⟩
def Stored (w w' : World) (b o : Nat) (us : List Value) : Prop := ∀ p, w'.cell? ⟨b, p, none⟩ = if o ≤ p ∧ p < o + us.length then us[p - o]? else w.cell? ⟨b, p, none⟩
theorem over_get {α : Type} (l us : List α) (o p : Nat) (h : o + us.length ≤ l.length) :
    (l.take o ++ us ++ l.drop (o + us.length))[p]? = if o ≤ p ∧ p < o + us.length then us[p - o]? else l[p]? := by
  by_cases h1 : p < o
  · rw [if_neg (by omega), List.append_assoc, List.getElem?_append_left (by simp; omega), List.getElem?_take_of_lt h1]
  · by_cases h2 : p < o + us.length
    · rw [if_pos ⟨by omega, h2⟩, List.append_assoc, List.getElem?_append_right (by simp; omega), List.getElem?_append_left (by simp; omega)]
      simp [Nat.min_eq_left (show o ≤ l.length by omega)]
    · rw [if_neg (by omega), List.getElem?_append_right (by simp; omega), List.getElem?_drop]
      simp only [List.length_append, List.length_take, Nat.min_eq_left (show o ≤ l.length by omega)]
      congr 1; omega
theorem setRow_stored {b o : Nat} {cur : Array Value} {e : TypeId} {fr : Nat × Nat} {us : List Value} (hb : w.heap[b]? = some (.cells cur e fr)) (ho : o + us.length ≤ cur.size) :
    Stored w (w.setRow b (cur.toList.take o ++ us ++ cur.toList.drop (o + us.length)).toArray) b o us := by
  intro p
  rw [cell?_cells (setRow_heap w b cur _ e fr hb), cell?_cells hb]
  have := over_get cur.toList us o p (by simpa using ho)
  simpa using this
theorem setRow_grown (w : World) (b : Nat) (cs : Array Value) : w.grownBy (w.setRow b cs) (some b) :=
  ⟨rfl, rfl, rfl, by simp [World.setRow], fun k _ hk => setRow_other w b k cs (fun e => hk (by rw [e]))⟩
theorem CR_apart {b o o' : Nat} {us : List Value} {cs : List AV} (hs : Stored w w' b o us) (hK : ∀ p b, K p b → w'.heap[b]? = w.heap[b]?) (h : CR σ K w b o' cs) (hd : o' + cs.length ≤ o ∨ o + us.length ≤ o') :
    CR σ K w' b o' cs := by
  refine CR_iff.2 fun j x hj => ?_
  obtain ⟨u, h1, h2, h3⟩ := CR_iff.1 h j x hj
  have hlt := (List.getElem?_eq_some_iff.1 hj).1
  refine ⟨u, ?_, h2, VR.mono (List.prefix_refl _) (fun _ _ h => h) hK _ _ h3⟩
  rw [hs, if_neg (by omega)]; exact h1
theorem CR_over {b o o' : Nat} {us : List Value} {cs vs : List AV} (hs : Stored w w' b (o' + o) us) (hK : ∀ p b, K p b → w'.heap[b]? = w.heap[b]?) (h : CR σ K w b o' cs)
    (hv : VRs σ K w vs us) (h1 : ∀ u ∈ us, u.oneCell' = true) (hle : o + vs.length ≤ cs.length) : CR σ K w' b o' (over cs o vs) := by
  have hl := VRs_length hv
  refine CR_iff.2 fun j x hj => ?_
  unfold over at hj
  rw [over_get cs vs o j hle] at hj
  rw [hs]
  split at hj
  · rename_i hj'
    rw [if_pos (by omega)]
    obtain ⟨u, hu, hx⟩ := (VRs_iff.1 hv).2 _ _ hj
    exact ⟨u, by rw [show o' + j - (o' + o) = j - o by omega]; exact hu, h1 u (List.mem_of_getElem? hu), VR.mono (List.prefix_refl _) (fun _ _ h => h) hK _ _ hx⟩
  · rename_i hj'
    rw [if_neg (by omega)]
    obtain ⟨u, hc, h2, h3⟩ := CR_iff.1 h j x hj
    exact ⟨u, hc, h2, VR.mono (List.prefix_refl _) (fun _ _ h => h) hK _ _ h3⟩
theorem Rel.not_kept (hrel : Rel β K σ m w) {pos gen b c : Nat} {o : AObj} (h : m.obj pos gen = some o) (hg : σ[gen]? = some (some b, c)) : ∀ p, ¬ K p b :=
  (hrel.own b ⟨pos, gen, o, c, Mem.obj_some h, hg⟩).2.2
theorem store_sound (hrel : Rel β K σ m w) {t : TypeId} {i : TypeInfo} {x y : AV} {o : Oper} {a d : Operand} (ho : o.op = .store t a d) (hi : P.info? t = some i)
    (hx : VR σ K w x (ρ a)) (hy : VR σ K w y (ρ d)) (h : storeA i.size m x y = some m') : Done β K σ w m' .any ((execOp ρ o).run P w) := by
  unfold storeA at h
  split at h
  case isFalse => cases h
  rename_i hc
  obtain ⟨hsz, hone⟩ := hc
  have hV := hy.cells hone
  have hones := VRs_ones hV hone
  have hlen : (ρ d).cells.size = i.size := by have := VRs_length hV; simpa [hsz] using this
  cases x <;> simp only [reduceCtorEq] at h
  case ptr pos gen off =>
    rw [VR] at hx
    obtain ⟨b, c, hg, hy'⟩ := hx
    split at h
    · rename_i vs hobj
      split at h
      · rename_i hle
        injection h with h; subst h
        obtain ⟨cur, e, hb, hcs, hcr⟩ := hrel.obj_cells hobj hg
        have hst := run_storeCells_at P b off e (ρ d).cells.toList 0 cur w hb (by simp [hlen]; omega) hones
        simp only [Nat.add_zero] at hst
        have : (execOp ρ o).run P w = .ok .skip (w.setRow b (cur.toList.take off ++ (ρ d).cells.toList ++ cur.toList.drop (off + (ρ d).cells.toList.length)).toArray) := by
          simp only [execOp, ho, hy', Instr.storeAt, Instr.sureAddr, storeVar, Sem.run_bind, Sem.run_pure, Result.andThen_ok, run_sizeOf' hi, hlen, ne_eq, not_true_eq_false, if_false, hst]
        rw [this]
        have hK := hrel.kept_same (setRow_grown w b _) (hrel.not_kept hobj hg) (w' := w.setRow b (cur.toList.take off ++ (ρ d).cells.toList ++ cur.toList.drop (off + (ρ d).cells.toList.length)).toArray)
        refine .skip (hrel.put (Mem.obj_some hobj) hg (setRow_grown w b _) ⟨_, e, setRow_heap w b cur _ e _ hb, ?_, ?_⟩) hK
        · simp only [List.size_toArray, List.length_append, List.length_take, List.length_drop, Array.length_toList, over]
          omega
        · exact CR_over (o' := 0) (by rw [Nat.zero_add]; exact setRow_stored hb (by simp [hlen]; omega)) hK hcr hV hones (by omega)
      · cases h
    · cases h
  case rptr pos gen sz idx off =>
    rw [VR] at hx
    obtain ⟨b, c, hg, hy'⟩ := hx
    split at h
    · rename_i e sz' els hobj
      split at h
      · rename_i cs hcs
        split at h
        · rename_i hle
          obtain ⟨hse, hle⟩ := hle
          subst hse
          injection h with h; subst h
          obtain ⟨cur, hb, hcsz, hcap, hmax, hpos, hlr⟩ := hrel.obj_row hobj hg
          obtain ⟨hcl, hcr⟩ := LR_iff.1 hlr idx cs hcs
          have hidx : idx < els.length := (List.getElem?_eq_some_iff.1 hcs).1
          have hfit : idx * sz + off + i.size ≤ cur.size := by
            have : (idx + 1) * sz ≤ c * sz := Nat.mul_le_mul_right _ (by omega)
            rw [Nat.add_mul] at this
            omega
          have hst := run_storeCells_at P b (idx * sz + off) e (ρ d).cells.toList 0 cur w hb (by simp [hlen]; omega) hones
          simp only [Nat.add_zero] at hst
          have : (execOp ρ o).run P w = .ok .skip (w.setRow b (cur.toList.take (idx * sz + off) ++ (ρ d).cells.toList ++ cur.toList.drop (idx * sz + off + (ρ d).cells.toList.length)).toArray) := by
            simp only [execOp, ho, hy', Instr.storeAt, Instr.sureAddr, storeVar, Sem.run_bind, Sem.run_pure, Result.andThen_ok, run_sizeOf' hi, hlen, ne_eq, not_true_eq_false, if_false, hst]
          rw [this]
          have hK := hrel.kept_same (setRow_grown w b _) (hrel.not_kept hobj hg) (w' := w.setRow b (cur.toList.take (idx * sz + off) ++ (ρ d).cells.toList ++ cur.toList.drop (idx * sz + off + (ρ d).cells.toList.length)).toArray)
          have hstored := setRow_stored (o := idx * sz + off) (us := (ρ d).cells.toList) hb (by simp [hlen]; omega)
          refine .skip (hrel.put (Mem.obj_some hobj) hg (setRow_grown w b _) ⟨_, setRow_heap w b cur _ e _ hb, ?_, by simpa using hcap, hmax, hpos, LR_iff.2 fun j cs' hj => ?_⟩) hK
          · simp only [List.size_toArray, List.length_append, List.length_take, List.length_drop, Array.length_toList, hlen]
            omega
          · rcases set_get hj with ⟨rfl, rfl⟩ | ⟨hne, hj⟩
            · refine ⟨by simp only [over, List.length_append, List.length_take, List.length_drop]; omega, ?_⟩
              exact CR_over (by rw [Nat.zero_add]; exact hstored) hK hcr hV hones (by omega)
            · obtain ⟨h1, h2⟩ := LR_iff.1 hlr j cs' hj
              refine ⟨h1, CR_apart hstored hK h2 ?_⟩
              rw [show (ρ d).cells.toList.length = i.size by simp [hlen], h1]
              rcases Nat.lt_or_gt_of_ne hne with hlt | hgt
              · left
                have : (j + 1) * sz ≤ idx * sz := Nat.mul_le_mul_right _ hlt
                rw [Nat.add_mul] at this
                omega
              · right
                have : (idx + 1) * sz ≤ j * sz := Nat.mul_le_mul_right _ hgt
                rw [Nat.add_mul] at this
                omega
        · cases h
      · cases h
    · cases h
theorem nilCheck_sound (hrel : Rel β K σ m w) {x : AV} {o : Oper} {a : Operand} (ho : o.op = .nilCheck a) (hx : VR σ K w x (ρ a))
    (h : nilCheckA x = some v) : Done β K σ w m v ((execOp ρ o).run P w) := by
  cases x <;> simp only [nilCheckA, reduceCtorEq, Option.some.injEq] at h <;> subst h <;> have hx' := hx <;> rw [VR] at hx'
  case iptr => obtain ⟨b, o', h1, _⟩ := hx'; have : (execOp ρ o).run P w = .ok (.value (ρ a)) w := by simp [execOp, ho, h1]
               rw [this]; exact .pure hrel hx
  case ptr => obtain ⟨b, o', _, h1⟩ := hx'; have : (execOp ρ o).run P w = .ok (.value (ρ a)) w := by simp [execOp, ho, h1]
              rw [this]; exact .pure hrel hx
  case rptr => obtain ⟨b, o', _, h1⟩ := hx'; have : (execOp ρ o).run P w = .ok (.value (ρ a)) w := by simp [execOp, ho, h1]
               rw [this]; exact .pure hrel hx
  case fn => obtain ⟨cs, h1, _⟩ := hx'; have : (execOp ρ o).run P w = .ok (.value (ρ a)) w := by simp [execOp, ho, h1]
             rw [this]; exact .pure hrel hx
theorem binInt_sound {op : BinOp} {k : IntKind} {a b : Int} {t : TypeId} (hns : op ≠ .shl ∧ op ≠ .shr) (h : binInt op k a b = some v) :
    ∃ u, (binOp op t (.int k a) (.int k b)).run P w = .ok u w ∧ VR σ K w v u := by
  cases op <;> simp only [binInt, Option.some.injEq, reduceCtorEq] at h <;>
    first
    | (subst h; exact ⟨_, by simp [binOp, Op.intArith, Op.intBits, Op.intCmp]; rfl, by simp [VR]⟩)
    | skip
  case quo =>
    split at h
    · cases h
    · rename_i hb
      injection h with h; subst h
      exact ⟨_, by simp [binOp, Op.intDiv, hb]; rfl, by simp [VR]⟩
  case rem =>
    split at h
    · cases h
    · rename_i hb
      injection h with h; subst h
      exact ⟨_, by simp [binOp, Op.intDiv, hb]; rfl, by simp [VR]⟩
theorem binStr_sound {op : BinOp} {x y : ByteArray} {t : TypeId} (h : binStr op x y = some v) : ∃ u, (binOp op t (.string x) (.string y)).run P w = .ok u w ∧ VR σ K w v u := by
  have hmax : IntKind.i64.max = 9223372036854775807 := rfl
  cases op <;> simp only [binStr, Option.some.injEq, reduceCtorEq] at h <;>
    first
    | (subst h; exact ⟨_, by simp [binOp, Op.stringOp]; rfl, by simp [VR]⟩)
    | skip
  case add =>
    split at h
    · rename_i hle
      injection h with h; subst h
      exact ⟨.string (x ++ y), by simp only [binOp, Op.stringOp]; rw [if_neg (by rw [hmax]; omega)]; rfl, by simp [VR]⟩
    · cases h
theorem shInt_sound {op : BinOp} {k k' : IntKind} {a b : Int} {t : TypeId} (hop : op = .shl ∨ op = .shr) (h : shInt op k a b = some v) :
    ∃ u, (binOp op t (.int k a) (.int k' b)).run P w = .ok u w ∧ VR σ K w v u := by
  unfold shInt at h
  split at h
  · cases h
  · rename_i hb
    rcases hop with rfl | rfl <;> simp only [Option.some.injEq] at h <;> subst h
    · exact ⟨_, by simp [binOp, Op.shift, hb]; rfl, by simp [VR]⟩
    · exact ⟨_, by simp [binOp, Op.shift, hb]; rfl, by simp [VR]⟩
theorem eqGuard_int (op : BinOp) (t : TypeId) (x y : Operand) (k k' : IntKind) (a b : Int) : (eqGuard op t x y (.int k a) (.int k' b)).run P w = .ok () w := by
  unfold eqGuard; cases op <;> rfl
theorem eqGuard_str (op : BinOp) (t : TypeId) (x y : Operand) (a b : ByteArray) : (eqGuard op t x y (.string a) (.string b)).run P w = .ok () w := by
  unfold eqGuard; cases op <;> rfl
theorem eqGuard_bool (op : BinOp) (t : TypeId) (x y : Operand) (a b : Bool) : (eqGuard op t x y (.bool a) (.bool b)).run P w = .ok () w := by
  unfold eqGuard; cases op <;> rfl
theorem bin_sound (hrel : Rel β K σ m w) {op : BinOp} {t t' : TypeId} {x y : AV} {o : Oper} {a d : Operand} (ho : o.op = .binOp op t a d t') (hx : VR σ K w x (ρ a)) (hy : VR σ K w y (ρ d))
    (h : binA op x y = some v) : Done β K σ w m v ((execOp ρ o).run P w) := by
  cases x <;> cases y <;> simp only [binA, reduceCtorEq] at h <;> rw [VR] at hx hy
  case int.int k a' k' b' =>
    have key : ∃ u, (binOp op t (.int k a') (.int k' b')).run P w = .ok u w ∧ VR σ K w v u := by
      by_cases hsh : op = .shl ∨ op = .shr
      · have h' : shInt op k a' b' = some v := by rcases hsh with rfl | rfl <;> exact h
        exact shInt_sound hsh h'
      · have h' : (if k = k' then binInt op k a' b' else none) = some v := by
          cases op <;> first | exact h | (exact absurd (.inl rfl) hsh) | (exact absurd (.inr rfl) hsh)
        split at h'
        · rename_i hk; subst hk
          exact binInt_sound ⟨fun e => hsh (.inl e), fun e => hsh (.inr e)⟩ h'
        · cases h'
    obtain ⟨u, hu, hV⟩ := key
    have : (execOp ρ o).run P w = .ok (.value u) w := by
      simp only [execOp, ho, hx, hy, Sem.run_bind, eqGuard_int, Result.andThen_ok, hu, Sem.run_pure]
    rw [this]; exact .pure hrel hV
  case str.str a' b' =>
    obtain ⟨u, hu, hV⟩ := binStr_sound (P := P) (w := w) (σ := σ) (K := K) (t := t) h
    have : (execOp ρ o).run P w = .ok (.value u) w := by
      simp only [execOp, ho, hx, hy, Sem.run_bind, eqGuard_str, Result.andThen_ok, hu, Sem.run_pure]
    rw [this]; exact .pure hrel hV
theorem eqBool_sound (hrel : Rel β K σ m w) {neg : Bool} {op : BinOp} {t t' : TypeId} {x y : Bool} {o : Oper} {a d : Operand} (ho : o.op = .binOp op t a d t') (hop : op = if neg then .neq else .eql)
    (hu : P.underlying t = some .bool) (hx : ρ a = .bool x) (hy : ρ d = .bool y) : Done β K σ w m (.bool (if neg then !(x == y) else x == y)) ((execOp ρ o).run P w) := by
  have heq : (Op.equal t (.bool x) (.bool y)).run P w = .ok (x == y) w := by
    show (Op.equalIn (9999 + 1) t _ _).run P w = _
    rw [Op.equalIn, Sem.run_bind, run_underlying hu]
    rfl
  have : (execOp ρ o).run P w = .ok (.value (.bool (if neg then !(x == y) else x == y))) w := by
    cases neg <;> simp only [Bool.false_eq_true, if_false, if_true] at hop <;> subst hop <;>
      simp [execOp, ho, hx, hy, eqGuard_bool, binOp, heq]
  rw [this]; exact .pure hrel (by rw [VR])
theorem un_sound (hrel : Rel β K σ m w) {op : UnOp} {t : TypeId} {x : AV} {o : Oper} {a : Operand} (ho : o.op = .unOp op t a) (hx : VR σ K w x (ρ a)) (h : unA op x = some v) :
    Done β K σ w m v ((execOp ρ o).run P w) := by
  cases x <;> simp only [unA, reduceCtorEq] at h <;> rw [VR] at hx
  case bool b =>
    cases op <;> simp only [reduceCtorEq, Option.some.injEq] at h
    subst h
    have : (execOp ρ o).run P w = .ok (.value (.bool !b)) w := by simp [execOp, ho, hx, Op.unary]
    rw [this]; exact .pure hrel (by rw [VR])
  case int k n =>
    cases op <;> simp only [reduceCtorEq, Option.some.injEq] at h <;> subst h
    · have : (execOp ρ o).run P w = .ok (.value (.int k (k.wrap (0 - n)))) w := by simp [execOp, ho, hx, Op.unary, Op.intArith]
      rw [this]; exact .pure hrel (by rw [VR])
    · have : (execOp ρ o).run P w = .ok (.value (.int k (k.wrap (BitVec.ofInt k.bits (if k.signed then -1 else k.max) ^^^ BitVec.ofInt k.bits n).toNat))) w := by
        simp only [execOp, ho, hx, Op.unary, Op.intBits, Sem.run_bind, Sem.run_pure, Result.andThen_ok]
      rw [this]; exact .pure hrel (by rw [VR])
theorem convInt_sound (hrel : Rel β K σ m w) {src dst : TypeId} {k k' k'' : IntKind} {n : Int} {o : Oper} {a : Operand} (ho : o.op = .convert src dst a) (h1 : P.underlying src = some (.int k')) (h2 : P.underlying dst = some (.int k))
    (hx : ρ a = .int k'' n) : Done β K σ w m (.int k (k.wrap n)) ((execOp ρ o).run P w) := by
  have : (execOp ρ o).run P w = .ok (.value (.int k (k.wrap n))) w := by
    simp [execOp, ho, hx, convert, run_underlying h1, run_underlying h2, Conv.intToInt]
  rw [this]; exact .pure hrel (by rw [VR])
theorem mkFn_sound (hrel : Rel β K σ m w) {f : FuncId} {first captured : Array Operand} {caps : List AV} {o : Oper} (ho : o.op = .makeFunc (.func f) first captured) (hf : first.size = 0)
    (hx : VRs σ K w caps (captured.toList.map ρ)) : Done β K σ w m (.fn f caps) ((execOp ρ o).run P w) := by
  rw [Array.size_eq_zero_iff] at hf; subst hf
  have : (execOp ρ o).run P w = .ok (.value (.func (.func f) #[] (captured.map ρ))) w := by
    simp [execOp, ho, Instr.makeFunc]
  rw [this]; exact .pure hrel (by rw [VR]; exact ⟨_, rfl, by simpa using hx⟩)
theorem mkIface_sound (hrel : Rel β K σ m w) {t : TypeId} {x : AV} {o : Oper} {a : Operand} {d : TypeDesc} (ho : o.op = .makeInterface t a) (hu : P.underlying t = some d) (hd : ∀ ms, d ≠ .interface ms)
    (hx : VR σ K w x (ρ a)) : Done β K σ w m (.iface t x) ((execOp ρ o).run P w) := by
  have : (execOp ρ o).run P w = .ok (.value (.iface t (ρ a))) w := by
    simp only [execOp, ho, Instr.makeInterface, Sem.run_bind, run_underlying hu, Result.andThen_ok]
    cases d <;> first | rfl | exact absurd rfl (hd _)
  rw [this]; exact .pure hrel (by rw [VR]; exact ⟨_, rfl, hx⟩)
theorem extract_sound (hrel : Rel β K σ m w) {i : Nat} {vs : List AV} {o : Oper} {a : Operand} (ho : o.op = .extract a i) (hx : VR σ K w (.tuple vs) (ρ a)) (h : vs[i]? = some v) :
    Done β K σ w m v ((execOp ρ o).run P w) := by
  rw [VR] at hx
  obtain ⟨us, hy, hv⟩ := hx
  obtain ⟨u, hu, hV⟩ := (VRs_iff.1 hv).2 i v h
  have hu' : us[i]? = some u := by simpa using hu
  have : (execOp ρ o).run P w = .ok (.value u) w := by simp [execOp, ho, hy, Instr.extract, hu']
  rw [this]; exact .pure hrel hV
theorem index_sound (hrel : Rel β K σ m w) {t : TypeId} {s : ByteArray} {k : IntKind} {i : Int} {b : UInt8} {o : Oper} {a d : Operand} (ho : o.op = .index t a d) (hu : P.underlying t = some .string)
    (hx : ρ a = .string s) (hy : ρ d = .int k i) (h0 : 0 ≤ i) (h : s[i.toNat]? = some b) : Done β K σ w m (.int .u8 b.toNat) ((execOp ρ o).run P w) := by
  have : (execOp ρ o).run P w = .ok (.value (.int .u8 b.toNat)) w := by simp [execOp, ho, hx, hy, Instr.index, asIntOf, run_underlying hu, h0, h]
  rw [this]; exact .pure hrel (by rw [VR])
end
end Go.Pm
