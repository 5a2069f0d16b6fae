/- PmN: code and calls are as the predicate says. -/
import Derived.Scope
import Derived.Test.YtmcogjekcefjoaaGreatDoorPmM
namespace Go.Pm
open Go
section
variable {P : Prg} {imp : List FuncId} {β : Base} {N : Nat}
structure Ext (σ0 : Sig) (K0 : Bool → Nat → Prop) (w0 : World) (σ : Sig) (K : Bool → Nat → Prop) (w : World) : Prop where
  sig : σ0 <+: σ
  kept : ∀ p b, K0 p b → K p b
  same : ∀ p b, K0 p b → w.heap[b]? = w0.heap[b]?
theorem Ext.trans {σ0 σ1 σ2 : Sig} {K0 K1 K2 : Bool → Nat → Prop} {w0 w1 w2 : World} (h : Ext σ0 K0 w0 σ1 K1 w1) (h' : Ext σ1 K1 w1 σ2 K2 w2) : Ext σ0 K0 w0 σ2 K2 w2 :=
  ⟨h.sig.trans h'.sig, fun p b hb => h'.kept p b (h.kept p b hb), fun p b hb => (h'.same p b (h.kept p b hb)).trans (h.same p b hb)⟩
theorem Env.le_refl (e : Env) : Env.le e e := fun _ => .inr rfl
theorem St.le {e e' : Env} {m : Mem} {a : Act} {w : World} {σ : Sig} {K : Bool → Nat → Prop} (h : St β N e m a w σ K) (hle : Env.le e' e) : St β N e' m a w σ K := ⟨h.rel, h.env.le hle, h.defers, h.size⟩
theorem St.forget {e : Env} {m m' : Mem} {a : Act} {w : World} {σ : Sig} {K : Bool → Nat → Prop} (h : St β N e m a w σ K) (hle : Mem.le m' m) : St β N e m' a w σ K := by
  obtain ⟨h1, n, h2⟩ := hle
  have : m' = ⟨m.store.take n, m.next⟩ := by cases m'; simp only at h1 h2; rw [h1, h2]
  rw [this]
  exact ⟨h.rel.forget n, h.env, h.defers, h.size⟩
theorem conc_mk {z : Prop} {σ0 : Sig} {K0 : Bool → Nat → Prop} {w0 : World} {Q : Post} {ax : AX} {x : Exit} {e : Env} {m : Mem} {a : Act} {w : World} {σ : Sig} {K : Bool → Nat → Prop} (hq : Q ax e m) (hx : exitR σ K w ax x) (hst : St β N e m a w σ K) (hext : Ext σ0 K0 w0 σ K w) :
    conc z β N σ0 K0 w0 Q x a w := ⟨[], ax, e, m, σ, K, hq, hx, hst, ⟨hext.sig, hext.kept, hext.same⟩, fun _ => rfl⟩
theorem conc_also {z : Prop} {Ds : List Nat} {σ0 : Sig} {K0 : Bool → Nat → Prop} {w0 : World} {Q : Post} {x : Exit} {a : Act} {w : World} (hD : z → Ds = []) (h : conc z (β.also Ds) N σ0 K0 w0 Q x a w) : conc z β N σ0 K0 w0 Q x a w := by
  obtain ⟨Ds', ax, e, m, σ, K, h1, h2, h3, h4, h5⟩ := h
  exact ⟨Ds' ++ Ds, ax, e, m, σ, K, h1, h2, by rw [← Base.also_also]; exact h3, h4, fun hr => by rw [h5 hr, hD hr]; rfl⟩
theorem conc_to {z : Prop} {Ds : List Nat} {σ0 : Sig} {K0 : Bool → Nat → Prop} {w0 : World} {Q : Post} {ax : AX} {x : Exit} {e : Env} {m : Mem} {a : Act} {w : World} {σ : Sig} {K : Bool → Nat → Prop} (hD : z → Ds = []) (hq : Q ax e m) (hx : exitR σ K w ax x) (hst : St (β.also Ds) N e m a w σ K) (hext : Ext σ0 K0 w0 σ K w) :
    conc z β N σ0 K0 w0 Q x a w := conc_also hD (conc_mk hq hx hst hext)
theorem Rel.freeze {σ : Sig} {K : Bool → Nat → Prop} {m : Mem} {w : World} (h : Rel β K σ m w) : Rel (β.also [w.heap.size]) K σ m (w.alloc (.deferred (some []))) := by
  have hg := grownBy_alloc' w (.deferred (some []))
  have h1 := h.grow hg (K' := K) (fun _ _ h => h) (fun _ _ h => .inl h)
  refine ⟨h1.next, h1.objs, h1.inj, h1.own, h1.kept, h1.kept0, h1.sig, h1.size, h1.frame, h1.os, h1.tape, h1.output, ?_, ?_, h1.gl⟩
  · refine List.nodup_cons.2 ⟨fun hD => ?_, h.nd⟩
    have := frz_lt (h.frz _ hD).1
    omega
  · intro D hD
    rcases List.mem_cons.1 hD with rfl | hD
    · exact ⟨World.alloc_heap_new w _, h.size, fun ho => by have := (h.own _ ho).2.1; omega, fun p hk => by have := (h.kept p _ hk).2; omega, fun hb => by have := (h.gl.2 _ hb).1; omega⟩
    · exact h1.frz D hD
theorem Rel.at_obj {σ : Sig} {K : Bool → Nat → Prop} {m : Mem} {w : World} (h : Rel β K σ m w) {pos gen : Nat} {o : AObj} (ho : m.obj pos gen = some o) : ∃ s, σ[gen]? = some s ∧ ObjR σ K w o s := h.objs pos gen o (Mem.obj_some ho)
theorem Rel.put_loop {σ : Sig} {K : Bool → Nat → Prop} {m : Mem} {w : World} (h : Rel β K σ m w) {pos gen b c : Nat} {o o' : AObj} {x : Obj} (ho : m.obj pos gen = some o) (hs : σ[gen]? = some (some b, c)) (ho' : ObjR σ K (w.putObj b x) o' (some b, c)) :
    Rel β K σ (m.put pos gen o') (w.putObj b x) ∧ ∀ p b', K p b' → (w.putObj b x).heap[b']? = w.heap[b']? := by
  have hp := Mem.obj_some ho
  refine ⟨h.put hp hs (grownBy_putObj' w b x) ho', fun p b' hb => World.putObj_heap_other (fun e => ?_)⟩
  subst e
  exact (h.own b' ⟨pos, gen, o, c, hp, hs⟩).2.2 p hb
theorem wp_sound {r : Option Nat} {z : Prop} {G : FuncId → Prop} {σ0 : Sig} {K0 : Bool → Nat → Prop} {w0 : World} : ∀ (c : Code) (sc : SC), compCode P imp N c = some sc.strip → ((r = none ∧ ∀ f, G f → real P f) ∨ sc.flat = true) → (z → sc.flat = true) → ∀ (β : Base), β.fits P → ∀ (Q : Post) (e : Env) (m : Mem) (a : Act) (w : World) (σ : Sig) (K : Bool → Nat → Prop),
    wp P imp sc Q e m → St β N e m a w σ K → Ext σ0 K0 w0 σ K w → wpR r G P c (conc z β N σ0 K0 w0 Q) a w := by
  intro c
  induction c with
  | skip =>
    intro sc hc hfl hz β hβ Q e m a w σ K h hst hext
    cases sc <;> simp only [compCode, SC.strip, Option.some.injEq, reduceCtorEq] at hc
    exact wpR_skip (conc_mk (ax := .norm) h trivial hst hext)
  | label l =>
    intro sc hc hfl hz β hβ Q e m a w σ K h hst hext
    cases sc <;> simp only [compCode, SC.strip, Option.some.injEq, reduceCtorEq] at hc
    exact wpR_label (conc_mk (ax := .norm) h trivial hst hext)
  | region id os draw =>
    intro sc hc hfl hz β hβ Q e m a w σ K h hst hext
    unfold compCode at hc
    split at hc
    · rename_i hd
      subst hd
      split at hc
      · rename_i hm
        split at hc
        · rename_i sl hsl
          simp only [Option.map_eq_some_iff] at hc
          obtain ⟨l, hl, hc⟩ := hc
          cases sc <;> simp only [SC.strip, reduceCtorEq, SC.draw.injEq, and_true] at hc
          rename_i l' drop
          subst hc
          refine wpR_of (n := 0) (wpIn_region_any hm (anyA_sound (β := β) hβ (imp := imp) hsl (k := fun g m => ∃ e : Env, e.get = g ∧ Q .norm (e.drop drop) m) (q := fun v m => Q (.panic v) [] m) (σ0 := σ0) (K0 := K0) (w0 := w0) ?_ ?_ _ _ e m a _ σ K (anyA_tree (anc_all os) _ _ _ _ _ shut_none hl (dops_chain _ _ _ _ _ h)) ?_ hext.sig hext.kept hext.same))
          · intro e' m' a' w' σ' K' hk hst' h1 h2 h3
            obtain ⟨e2, hge, hq⟩ := hk
            refine conc_mk (ax := .norm) hq trivial (hst'.le fun t => ?_) ⟨h1, h2, h3⟩
            rcases Env.get_drop e2 drop t with h | h
            · exact .inl h
            · exact .inr (by rw [h, hge])
          · intro v m' a' w' σ' K' u hk hst' h1 h2 h3 hV
            exact conc_mk (ax := .panic v) hk ⟨u, rfl, hV⟩ hst' ⟨h1, h2, h3⟩
          · exact ⟨hst.rel.grow (K' := K) ⟨rfl, rfl, rfl, Nat.le_refl _, fun _ _ _ => rfl⟩ (fun _ _ h => h) (fun _ _ h => .inl h), hst.env.mono (List.prefix_refl _) (fun _ _ h => h) (fun _ _ _ => rfl), hst.defers, hst.size⟩
        · cases hc
      · cases hc
    · rename_i hd
      simp only [Bool.not_eq_true] at hd
      subst hd
      simp only [Option.map_eq_some_iff] at hc
      obtain ⟨l, hl, hc⟩ := hc
      cases sc <;> simp only [SC.strip, reduceCtorEq, SC.ops.injEq, and_true] at hc
      rename_i l' drop
      subst hc
      refine wpR_of (n := 0) (wpIn_region_list (wops_sound hβ (σ0 := σ0) (K0 := K0) (w0 := w0) (k := fun e m => Q .norm (e.drop drop) m) (Q := Q) ?_ ?_ os.toList l hl e m a w σ K h hst hext.sig hext.kept hext.same))
      · intro e' m' a' w' σ' K' hk hst' h1 h2 h3
        exact conc_mk (ax := .norm) hk trivial (hst'.le (Env.get_drop e' drop)) ⟨h1, h2, h3⟩
      · intro v e' m' a' w' σ' K' u hk hst' h1 h2 h3 hV
        exact conc_mk (ax := .panic v) hk ⟨u, rfl, hV⟩ hst' ⟨h1, h2, h3⟩
  | seq x y ihx ihy =>
    intro sc hc hfl hz β hβ Q e m a w σ K h hst hext
    unfold compCode at hc
    split at hc
    · rename_i sx sy hx hy
      cases sc <;> simp only [SC.strip, Option.some.injEq, reduceCtorEq, SC.seq.injEq] at hc
      rename_i sa sb
      obtain ⟨rfl, rfl⟩ := hc
      have hf1 : (r = none ∧ ∀ f, G f → real P f) ∨ sa.flat = true := hfl.imp (fun h => h) fun this => by simp only [SC.flat, Bool.and_eq_true] at this; exact this.1
      have hf2 : (r = none ∧ ∀ f, G f → real P f) ∨ sb.flat = true := hfl.imp (fun h => h) fun this => by simp only [SC.flat, Bool.and_eq_true] at this; exact this.2
      have hz1 : z → sa.flat = true := fun hh => by have := hz hh; simp only [SC.flat, Bool.and_eq_true] at this; exact this.1
      have hz2 : z → sb.flat = true := fun hh => by have := hz hh; simp only [SC.flat, Bool.and_eq_true] at this; exact this.2
      refine wpR_seq (wpR_mono (ihx sa hx hf1 hz1 β hβ _ e m a w σ K h hst hext) ?_)
      rintro ex a' w' ⟨Ds, ax, e', m', σ', K', hq, hxr, hst', ⟨h1, h2, h3⟩, hD⟩
      cases ex <;> cases ax <;> simp only [exitR] at hxr
      case normal.norm => exact wpR_mono (ihy sb hy hf2 hz2 (β.also Ds) hβ Q e' m' a' w' σ' K' hq hst' ⟨h1, h2, h3⟩) fun _ _ _ h => conc_also hD h
      case exit.exit => exact conc_to hD hq hxr hst' ⟨h1, h2, h3⟩
      case ret.ret => exact conc_to hD hq trivial hst' ⟨h1, h2, h3⟩
      case panic.panic => exact conc_to hD hq hxr hst' ⟨h1, h2, h3⟩
    · cases hc
  | cond c x y ihx ihy =>
    intro sc hc hfl hz β hβ Q e m a w σ K h hst hext
    unfold compCode at hc
    split at hc
    · rename_i c' sx sy hcc hx hy
      cases sc <;> simp only [SC.strip, Option.some.injEq, reduceCtorEq, SC.cond.injEq] at hc
      rename_i c2 sa sb
      obtain ⟨rfl, rfl, rfl⟩ := hc
      have hf1 : (r = none ∧ ∀ f, G f → real P f) ∨ sa.flat = true := hfl.imp (fun h => h) fun this => by simp only [SC.flat, Bool.and_eq_true] at this; exact this.1
      have hf2 : (r = none ∧ ∀ f, G f → real P f) ∨ sb.flat = true := hfl.imp (fun h => h) fun this => by simp only [SC.flat, Bool.and_eq_true] at this; exact this.2
      have hz1 : z → sa.flat = true := fun hh => by have := hz hh; simp only [SC.flat, Bool.and_eq_true] at this; exact this.1
      have hz2 : z → sb.flat = true := fun hh => by have := hz hh; simp only [SC.flat, Bool.and_eq_true] at this; exact this.2
      obtain ⟨t, ht, h1, h2⟩ := h
      have hV := opnd_sound hst.env hcc
      rw [ht, VR] at hV
      refine wpR_cond hV ?_
      cases t
      · exact ihy sb hy hf2 hz2 β hβ Q e m a w σ K (h2 rfl) hst hext
      · exact ihx sa hx hf1 hz1 β hβ Q e m a w σ K (h1 rfl) hst hext
    · cases hc
  | block id x ih =>
    intro sc hc hfl hz β hβ Q e m a w σ K h hst hext
    simp only [compCode, Option.map_eq_some_iff] at hc
    obtain ⟨sx, hx, hc⟩ := hc
    cases sc <;> simp only [SC.strip, reduceCtorEq, SC.block.injEq] at hc
    rename_i id' sa
    obtain ⟨rfl, rfl⟩ := hc
    refine wpR_block (wpR_mono (ih sa hx (hfl.imp (fun h => h) fun this => by simpa [SC.flat] using this) (fun hh => by simpa [SC.flat] using hz hh) β hβ _ e m a w σ K h hst hext) ?_)
    rintro ex a' w' ⟨Ds, ax, e', m', σ', K', hq, hxr, hst', ⟨h1, h2, h3⟩, hD⟩
    cases ex <;> cases ax <;> simp only [exitR] at hxr
    case normal.norm => exact conc_to hD hq trivial hst' ⟨h1, h2, h3⟩
    case exit.exit i j =>
      subst hxr
      simp only [Exit.inBlock]
      simp only at hq
      split
      · rename_i hj
        rw [if_pos hj] at hq
        exact conc_to hD hq trivial hst' ⟨h1, h2, h3⟩
      · rename_i hj
        rw [if_neg hj] at hq
        exact conc_to (ax := .exit _) hD hq rfl hst' ⟨h1, h2, h3⟩
    case ret.ret => exact conc_to hD hq trivial hst' ⟨h1, h2, h3⟩
    case panic.panic => exact conc_to hD hq hxr hst' ⟨h1, h2, h3⟩
  | loop x ih =>
    intro sc hc hfl hz β hβ Q e m a w σ K h hst hext
    simp only [compCode, Option.map_eq_some_iff] at hc
    obtain ⟨sx, hx, hc⟩ := hc
    cases sc <;> simp only [SC.strip, reduceCtorEq, SC.loop.injEq] at hc
    rename_i sa
    subst hc
    obtain ⟨I, ⟨n, e0, m0, hsim, hI⟩, hround⟩ := h
    obtain ⟨σ1, K1, hpre, hKK, hst1⟩ := hsim β N a w σ K hst
    refine wpR_loop (fun n a w => ∃ Ds e m σ K, I n e m ∧ St (β.also Ds) N e m a w σ K ∧ Ext σ0 K0 w0 σ K w ∧ (z → Ds = [])) ?_ n a w ⟨[], e0, m0, σ1, K1, hI, hst1, ⟨hext.sig.trans hpre, fun p b hb => hKK p b (hext.kept p b hb), hext.same⟩, fun _ => rfl⟩
    rintro n a w ⟨Ds, e, m, σ, K, hI, hst, hext, hD⟩
    refine wpR_mono (ih sa hx (hfl.imp (fun h => h) fun this => by simpa [SC.flat] using this) (fun hh => by simpa [SC.flat] using hz hh) (β.also Ds) hβ _ e m a w σ K (hround n e m hI) hst hext) ?_
    rintro ex a' w' hcon
    obtain ⟨Ds', ax, e', m', σ', K', hq, hxr, hst', ⟨h1, h2, h3⟩, hD'⟩ := conc_also hD hcon
    cases ex <;> cases ax <;> simp only [exitR] at hxr
    case normal.norm =>
      obtain ⟨n', e2, m2, hlt, hsim, hI'⟩ := hq
      obtain ⟨σ2, K2, hpre2, hKK2, hst2⟩ := hsim _ N a' w' σ' K' hst'
      exact ⟨n', hlt, Ds', e2, m2, σ2, K2, hI', hst2, ⟨h1.trans hpre2, fun p b hb => hKK2 p b (h2 p b hb), h3⟩, hD'⟩
    case exit.exit => exact conc_to hD' hq hxr hst' ⟨h1, h2, h3⟩
    case ret.ret => exact conc_to hD' hq trivial hst' ⟨h1, h2, h3⟩
    case panic.panic => exact conc_to hD' hq hxr hst' ⟨h1, h2, h3⟩
  | exit id =>
    intro sc hc hfl hz β hβ Q e m a w σ K h hst hext
    cases sc <;> simp only [compCode, SC.strip, Option.some.injEq, reduceCtorEq, SC.exit.injEq] at hc
    subst hc
    exact wpR_exit (conc_mk (ax := .exit id) h rfl hst hext)
  | ret =>
    intro sc hc hfl hz β hβ Q e m a w σ K h hst hext
    cases sc <;> simp only [compCode, SC.strip, Option.some.injEq, reduceCtorEq] at hc
    exact wpR_ret (conc_mk (ax := .ret) h trivial hst hext)
  | scope x ih =>
    intro sc hc hfl hz β hβ Q e m a w σ K h hst hext
    unfold compCode at hc
    refine wpR_scope (wpR_mono (ih sc hc hfl hz β hβ Q e m a w σ K h hst hext) ?_)
    rintro ex a' w' hcon
    cases ex with
    | goto l =>
      obtain ⟨Ds, ax, e', m', σ', K', hq, hxr, _⟩ := hcon
      cases ax <;> simp only [exitR] at hxr
    | _ => exact hcon
  | rangeFunc g ps x y ihx ihy =>
    intro sc hc hfl hz β hβ Q e m a w σ K h hst hext
    unfold compCode at hc
    split at hc
    case h_2 => cases hc
    rename_i g' sx sy hgc hx hy
    simp only [Option.ite_none_right_eq_some, Option.some.injEq] at hc
    obtain ⟨hflat, hc⟩ := hc
    cases sc <;> simp only [SC.strip, reduceCtorEq, SC.rangeF.injEq] at hc
    rename_i g2 ps2 sa sb
    obtain ⟨rfl, rfl, rfl, rfl⟩ := hc
    obtain ⟨rfl, hG⟩ : r = none ∧ ∀ f, G f → real P f := by
      rcases hfl with h | h
      · exact h
      · simp [SC.flat] at h
    simp only [Bool.and_eq_true] at hflat
    obtain ⟨⟨hfa, hfb⟩, hps⟩ := hflat
    rw [SC.flat_strip] at hfa hfb
    suffices main : ∀ (e : Env) (m : Mem) (σ : Sig) (K : Bool → Nat → Prop), St β N e m a w σ K → Ext σ0 K0 w0 σ K w → (∃ f caps R, g'.eval e = .fn f caps ∧ ACalls P f (.yield m.store.length m.next :: caps) (m.new (.loop .ready e (loopOk P imp ps.toList sa sb))) R ∧ ∀ out m', R out m' → match out with
        | .panic v => Q (.panic v) e m'
        | .ret _ => ∃ st e' ok, m'.obj m.store.length m.next = some (.loop st e' ok) ∧ (match st with
          | .ready => Q .norm e (m'.put m.store.length m.next .hole)
          | .ret => Q .ret e (m'.put m.store.length m.next .hole)
          | .exit id => Q (.exit id) e (m'.put m.store.length m.next .hole)
          | .busy => False)) → wpR none G P (.rangeFunc g ps x y) (conc z β N σ0 K0 w0 Q) a w by
      obtain ⟨e0, m0, hsim, h⟩ := h
      obtain ⟨σs, Ks, hpres, hKs, hsts⟩ := hsim β N a w σ K hst
      exact main e0 m0 σs Ks hsts ⟨hext.sig.trans hpres, fun p b hb => hKs p b (hext.kept p b hb), hext.same⟩ h
    clear h hst hext e m σ K
    rintro e m σ K hst hext ⟨f, caps, R, hg, ⟨⟨fn', hfn', hb', hn'⟩, hcall⟩, hR⟩
    refine wpR_range hG fun fn hfn => ?_
    have hV := opnd_sound hst.env hgc
    rw [hg, VR] at hV
    obtain ⟨cs, hcs, hVc⟩ := hV
    obtain ⟨rec, hrec⟩ : ∃ rec : Loop, rec = { state := .ready, pending := none, fn, tmps := a.tmps, params := ps, assign := x, body := y, defers := w.heap.size } := ⟨_, rfl⟩
    have hrel1 := hst.rel.freeze
    have hlen := hst.rel.next
    have hstore : σ.length = m.next := hlen
    obtain ⟨w2, hw2⟩ : ∃ w2, w2 = (w.alloc (.deferred (some []))).alloc (.loop rec) := ⟨_, rfl⟩
    have hl2 : w2.heap[w.heap.size + 1]? = some (.loop rec) := by
      rw [hw2]; have := World.alloc_heap_new (w.alloc (.deferred (some []))) (.loop rec); rwa [World.size_alloc] at this
    have hg2 : (w.alloc (.deferred (some []))).grownBy w2 none := by rw [hw2]; exact grownBy_alloc' _ _
    have hKw : ∀ p b, K p b → w2.heap[b]? = w.heap[b]? := fun p b hb => by
      have hlt := (hst.rel.kept p b hb).2
      exact (hg2.block b (by rw [World.size_alloc]; omega) (by simp)).trans ((grownBy_alloc' w _).block b hlt (by simp))
    have hpre : σ <+: σ ++ [(some (w.heap.size + 1), 0)] := List.prefix_append _ _
    have hrel2 : Rel (β.also [w.heap.size]) K (σ ++ [(some (w.heap.size + 1), 0)]) (m.new (.loop .ready e (loopOk P imp ps.toList sa sb))) w2 := by
      refine hrel1.new hg2 (s := (some (w.heap.size + 1), 0)) ?_ ?_
      · rintro b c hbc
        injection hbc with h1 h2; injection h1 with h1; subst h1
        rw [hw2]; simp [World.size_alloc]
      · refine ⟨rec, hl2, by rw [hrec]; rfl, by rw [hrec]; rfl, ?_, fun t => ?_⟩
        · rw [hrec]
          refine ⟨by simp, by simp only; rw [hst.size]; exact hx, by simp only; rw [hst.size]; exact hy, hfa, hfb, by simp only; rw [hst.size]; exact hps, hfn⟩
        · rw [hrec]; exact VR.mono hpre (fun _ _ h => h) hKw _ _ (hst.env t)
    have hgen : (σ ++ [(some (w.heap.size + 1), 0)])[m.next]? = some (some (w.heap.size + 1), 0) := by rw [← hlen]; simp
    refine ⟨w.heap.size + 1, [mark w.heap.size], w2, { target := .fn (.func f) cs, args := #[.func (.yield (w.heap.size + 1)) #[] #[]] }, f, #[.func (.yield (w.heap.size + 1)) #[] #[]] ++ cs, ?_, ?_, ?_, ?_⟩
    · rw [hw2, hrec]; exact run_enterLoop_outer _ _ _ _ _
    · have e1 : ∀ v : Value, a.eval (.const v) = v := fun _ => rfl
      simp [resolve, hcs, Deferred.ofValue, e1]
    · show (callFunc f _).run P w2 = _
      exact run_callFunc hfn' hb' hn' _ _
    · have hvals : VRs (σ ++ [(some (w.heap.size + 1), 0)]) K w2 (.yield m.store.length m.next :: caps) (.func (.yield (w.heap.size + 1)) #[] #[] :: cs.toList) :=
        ⟨_, _, rfl, by rw [VR]; exact ⟨_, _, hgen, rfl⟩, VRs.mono hpre (fun _ _ h => h) hKw _ _ hVc⟩
      have harr : (Value.func (.yield (w.heap.size + 1)) #[] #[] :: cs.toList).toArray = #[.func (.yield (w.heap.size + 1)) #[] #[]] ++ cs := by apply Array.ext'; simp
      have hc := hcall (β.also [w.heap.size]) K _ w2 _ hrel2 hvals hβ
      rw [harr] at hc
      refine hc.mono ?_
      rintro en w3 ⟨K3, σ3, m3, out, hRo, hrel3, i1, i2, i3, ho⟩
      have hpost := hR out m3 hRo
      have henv3 : EnvR σ3 K3 w3 e a := hst.env.mono (hpre.trans i1) i2 (fun p b hb => (i3 p b hb).trans (hKw p b hb))
      have hext3 : Ext σ0 K0 w0 σ3 K3 w3 := ⟨hext.sig.trans (hpre.trans i1), fun p b hb => i2 p b (hext.kept p b hb), fun p b hb => (i3 p b (hext.kept p b hb)).trans ((hKw p b (hext.kept p b hb)).trans (hext.same p b hb))⟩
      have hdef : ({ a with defers := [mark w.heap.size] ++ a.defers } : Act).defers = (β.also [w.heap.size]).D := by
        show [mark w.heap.size] ++ a.defers = [mark w.heap.size] ++ β.D
        rw [hst.defers]
      have hnone : z → [w.heap.size] = [] := fun h => by have := hz h; simp [SC.flat] at this
      cases out with
      | panic v =>
        obtain ⟨u, rfl, hVu⟩ := ho
        exact conc_to (ax := .panic v) hnone hpost ⟨u, rfl, hVu⟩ ⟨hrel3, henv3, hdef, hst.size⟩ hext3
      | ret v =>
        obtain ⟨u, rfl, hVu⟩ := ho
        obtain ⟨st, e', ok, hobj, hpost⟩ := hpost
        obtain ⟨s, hs, hOR⟩ := hrel3.at_obj hobj
        have hs' := pre_get i1 hgen
        rw [hs] at hs'; injection hs' with hs'; subst hs'
        obtain ⟨rc, hrc, hst1, hst2, _⟩ := hOR
        have hbusy : rc.state ≠ .busy := by
          rw [hst1]; cases st <;> simp [LoopSt.state] at hpost ⊢
        have hend := run_endLoop (P := P) hrc hbusy
        obtain ⟨hrel4, hK4⟩ := hrel3.put_loop (x := .loop { rc with state := .exhausted }) (o' := .hole) hobj hs trivial
        generalize w3.putObj (w.heap.size + 1) (.loop { rc with state := .exhausted }) = w4 at hend hrel4 hK4
        refine ⟨rc.pending, w4, hend, ?_⟩
        have hst4 : St (β.also [w.heap.size]) N e (m3.put m.store.length m.next .hole) { a with defers := [mark w.heap.size] ++ a.defers } w4 σ3 K3 :=
          ⟨hrel4, henv3.mono (List.prefix_refl _) (fun _ _ h => h) hK4, hdef, hst.size⟩
        have hext4 : Ext σ0 K0 w0 σ3 K3 w4 := hext3.trans ⟨List.prefix_refl _, fun _ _ h => h, hK4⟩
        rw [hst2]
        cases st with
        | ready => exact conc_to (ax := .norm) hnone hpost trivial hst4 hext4
        | ret => exact wpR_ret (conc_to (ax := .ret) hnone hpost trivial hst4 hext4)
        | exit id => exact wpR_exit (conc_to (ax := .exit id) hnone hpost rfl hst4 hext4)
        | busy => exact hpost.elim
  | goto | refuse => intro sc hc; simp [compCode] at hc
abbrev Res := Nat × Option (Bool × Nat)
def compRes (P : Program) : List ResultVar → Option (List Res)
  | [] => some []
  | .tmp t :: l => (compRes P l).map fun r => (t, none) :: r
  | .cell a t :: l => match P.info? t, compRes P l with
    | some i, some r => if (P.underlying t).isSome ∧ (isAggT P t ∨ i.size = 1) then some ((a, some (isAggT P t, i.size)) :: r) else none
    | _, _ => none
def resOne (e : Env) (m : Mem) : Res → Option AV
  | (t, none) => some (e.get t)
  | (a, some (agg, sz)) => loadA agg sz m (e.get a)
def resList (e : Env) (m : Mem) : List Res → Option (List AV)
  | [] => some []
  | r :: l => match resOne e m r, resList e m l with
    | some v, some vs => some (v :: vs)
    | _, _ => none
def resA (rs : List Res) (e : Env) (m : Mem) : Option AV :=
  match resList e m rs with
  | some [v] => some v
  | some vs => some (.tuple vs)
  | none => none
theorem run_loadVar_A {σ : Sig} {K : Bool → Nat → Prop} {w : World} {m : Mem} {t : TypeId} {i : TypeInfo} {x v : AV} {u : Value} (hrel : Rel β K σ m w) (hi : P.info? t = some i) (hu : (P.underlying t).isSome = true)
    (hx : VR σ K w x u) (h : loadA (isAggT P t) i.size m x = some v) : ∃ r, (do loadVar t (← asAddr u) : Sem Value).run P w = .ok r w ∧ VR σ K w v r := by
  unfold loadA at h
  cases hagg : isAggT P t with
  | true =>
    rw [hagg] at h
    simp only [if_true, Option.map_eq_some_iff] at h
    obtain ⟨cs, hcs, rfl⟩ := h
    obtain ⟨hl, b, of, hy, hc⟩ := cellsAt_sound hrel hx hcs
    obtain ⟨us, hV, _, hcell⟩ := CR_cells hc
    have hlen : us.length = i.size := by rw [VRs_length hV, hl]
    have hload := run_loadCells_list (P := P) w ⟨b, of, none⟩ us (fun j v hj => by rw [Addr.add_lit]; exact hcell j v hj)
    refine ⟨.agg us.toArray, ?_, by rw [VR]; exact ⟨_, rfl, by simpa using hV⟩⟩
    simp [hy, asAddr, loadVar, run_isAgg hu, hagg, run_sizeOf' hi, ← hlen, hload]
  | false =>
    rw [hagg] at h
    simp only [Bool.false_eq_true, if_false] at h
    split at h
    · rename_i v' hcs
      injection h with h; subst h
      obtain ⟨hl, b, of, hy, hc⟩ := cellsAt_sound hrel hx hcs
      rw [CR] at hc
      obtain ⟨⟨u', hcell, _, hV⟩, _⟩ := hc
      exact ⟨u', by simp [hy, asAddr, loadVar, run_isAgg hu, hagg, hcell], hV⟩
    · cases h
def rdRes (tmps : Array Value) : ResultVar → Sem Value
  | .tmp t => pure (tmps.getD t undef)
  | .cell ad t => do loadVar t (← asAddr (tmps.getD ad undef))
theorem results_eq (fn : Func) (tmps : Array Value) : results fn tmps = (do
    let vs ← fn.results.mapM (rdRes tmps)
    pure (if h : vs.size = 1 then vs[0] else .tuple vs)) := by
  unfold results
  congr 1
theorem resList_sound {σ : Sig} {K : Bool → Nat → Prop} {e : Env} {m : Mem} {a : Act} {w : World} (hst : St β N e m a w σ K) : ∀ {l : List ResultVar} {rs : List Res} {vs : List AV}, compRes P l = some rs → resList e m rs = some vs →
    ∃ us, (l.mapM (m := Sem) (rdRes a.tmps)).run P w = .ok us w ∧ VRs σ K w vs us
  | [], rs, vs, h, h' => by
    simp only [compRes, Option.some.injEq] at h; subst h
    simp only [resList, Option.some.injEq] at h'; subst h'
    exact ⟨[], by simp, rfl⟩
  | .tmp t :: l, rs, vs, h, h' => by
    simp only [compRes, Option.map_eq_some_iff] at h
    obtain ⟨rs, hr, rfl⟩ := h
    unfold resList at h'
    split at h'
    · rename_i v vs' h1 h2
      injection h' with h'; subst h'
      simp only [resOne, Option.some.injEq] at h1; subst h1
      obtain ⟨us, hrun, hV⟩ := resList_sound hst hr h2
      exact ⟨_ :: us, by simp only [List.mapM_cons, rdRes, Sem.run_bind, Sem.run_pure, Result.andThen_ok, hrun], _, us, rfl, hst.env t, hV⟩
    · cases h'
  | .cell ad t :: l, rs, vs, h, h' => by
    unfold compRes at h
    split at h
    · rename_i i rs' hi hr
      simp only [Option.ite_none_right_eq_some, Option.some.injEq] at h
      obtain ⟨⟨h1, _⟩, rfl⟩ := h
      unfold resList at h'
      split at h'
      · rename_i v vs' h3 h4
        injection h' with h'; subst h'
        obtain ⟨us, hrun, hV⟩ := resList_sound hst hr h4
        obtain ⟨r, hr1, hr2⟩ := run_loadVar_A hst.rel hi h1 (hst.env ad) h3
        refine ⟨r :: us, ?_, r, us, rfl, hr2, hV⟩
        simp only [List.mapM_cons, rdRes]
        rw [Sem.run_bind, hr1]
        simp only [Result.andThen_ok, Sem.run_bind, hrun, Sem.run_pure]
      · cases h'
    · cases h
theorem resA_sound {σ : Sig} {K : Bool → Nat → Prop} {e : Env} {m : Mem} {a : Act} {w : World} {fn : Func} {rs : List Res} {v : AV} (hst : St β N e m a w σ K) (hr : compRes P fn.results.toList = some rs) (h : resA rs e m = some v) :
    ∃ u, (results fn a.tmps).run P w = .ok u w ∧ VR σ K w v u := by
  have hm : ∀ (vs : List AV), resList e m rs = some vs → ∃ us : List Value, (results fn a.tmps).run P w = .ok (if h : us.length = 1 then us[0] else .tuple us.toArray) w ∧ VRs σ K w vs us := by
    intro vs hvs
    obtain ⟨us, hrun, hV⟩ := resList_sound (P := P) hst hr hvs
    refine ⟨us, ?_, hV⟩
    rw [results_eq, Array.mapM_eq_mapM_toList, Sem.run_bind, map_eq_pure_bind, Sem.run_bind, hrun]
    simp
  unfold resA at h
  split at h
  · rename_i v' hvs
    injection h with h; subst h
    obtain ⟨us, hrun, hV⟩ := hm _ hvs
    obtain ⟨u, rfl, hV'⟩ := VRs1 hV
    exact ⟨u, by simpa using hrun, hV'⟩
  · rename_i vs hne hvs
    injection h with h; subst h
    obtain ⟨us, hrun, hV⟩ := hm _ hvs
    have hl := VRs_length hV
    refine ⟨.tuple us.toArray, ?_, by rw [VR]; exact ⟨_, rfl, by simpa using hV⟩⟩
    rw [dif_neg] at hrun
    · exact hrun
    · intro h1
      rw [h1] at hl
      match vs, hl with
      | [v], _ => exact hne v rfl
  · cases h
def Env.ofArgs (i : Nat) : List AV → Env
  | [] => []
  | x :: l => (i, x) :: Env.ofArgs (i + 1) l
theorem Env.get_ofArgs : ∀ (l : List AV) (i t : Nat), (Env.ofArgs i l).get t = if i ≤ t then (l[t - i]?).getD .any else .any
  | [], i, t => by simp [Env.ofArgs, Env.get]
  | x :: l, i, t => by
    rw [Env.ofArgs, Env.get, Env.get_ofArgs l (i + 1) t]
    by_cases h : i = t
    · subst h; simp
    · rw [if_neg h]
      by_cases h1 : i ≤ t
      · rw [if_pos h1, if_pos (by omega), show t - i = (t - (i + 1)) + 1 by omega, List.getElem?_cons_succ]
      · rw [if_neg h1, if_neg (by omega)]
def endPost (rs : List Res) (R : AOut → Mem → Prop) : Post := fun x e m => match x with
  | .norm | .ret => ∃ v, resA rs e m = some v ∧ R (.ret v) m
  | .panic v => R (.panic v) m
  | .exit _ => False
theorem Rel.withD {σ : Sig} {K : Bool → Nat → Prop} {m : Mem} {w : World} (h : Rel β K σ m w) (D : List Deferred) : Rel { β with D := D } K σ m w := ⟨h.next, h.objs, h.inj, h.own, h.kept, h.kept0, h.sig, h.size, h.frame, h.os, h.tape, h.output, h.nd, h.frz, h.gl⟩
theorem Rel.offD {σ : Sig} {K : Bool → Nat → Prop} {m : Mem} {w : World} {D : List Deferred} (h : Rel { β with D := D } K σ m w) : Rel β K σ m w := ⟨h.next, h.objs, h.inj, h.own, h.kept, h.kept0, h.sig, h.size, h.frame, h.os, h.tape, h.output, h.nd, h.frz, h.gl⟩
def thaw (w : World) : List Nat → World
  | [] => w
  | D :: Ds => thaw (w.putObj D (.deferred none)) Ds
theorem thaw_other : ∀ (Ds : List Nat) (w : World) (b : Nat), b ∉ Ds → (thaw w Ds).heap[b]? = w.heap[b]?
  | [], _, _, _ => rfl
  | D :: Ds, w, b, h => by
    rw [thaw, thaw_other Ds _ b fun hb => h (List.mem_cons_of_mem _ hb)]
    exact World.putObj_heap_other fun e => h (by rw [e]; exact List.mem_cons_self)
theorem thaw_size : ∀ (Ds : List Nat) (w : World), (thaw w Ds).heap.size = w.heap.size
  | [], _ => rfl
  | D :: Ds, w => by rw [thaw, thaw_size Ds]; exact World.putObj_size
theorem thaw_rest : ∀ (Ds : List Nat) (w : World), (thaw w Ds).os = w.os ∧ (thaw w Ds).tape = w.tape ∧ (thaw w Ds).output = w.output
  | [], _ => ⟨rfl, rfl, rfl⟩
  | D :: Ds, w => by rw [thaw]; exact thaw_rest Ds _
theorem leaves_marks {fn : Func} {tmps : Array Value} {R : Ending → World → Prop} {u : FrameMode} {rest : List Deferred} (hu : u ≠ .run) : ∀ (Ds : List Nat) (w : World), Ds.Nodup → (∀ D ∈ Ds, w.heap[D]? = some (.deferred (some []))) →
    LeavesInM Fence.wide 0 P fn tmps R rest u (thaw w Ds) → LeavesInM Fence.wide 0 P fn tmps R (Ds.map mark ++ rest) u w
  | [], _, _, _, h => h
  | D :: Ds, w, hn, hD, h => by
    obtain ⟨h1, h2⟩ := List.nodup_cons.1 hn
    refine ⟨hu, .inl ⟨D, _, rfl, run_takeDeferred (hD D List.mem_cons_self), ?_⟩⟩
    refine leaves_marks hu Ds _ h2 (fun D' hD' => ?_) h
    rw [World.putObj_heap_other fun e => h1 (by rw [← e]; exact hD')]
    exact hD D' (List.mem_cons_of_mem _ hD')
theorem Rel.thaw {Ds : List Nat} {σ : Sig} {K : Bool → Nat → Prop} {m : Mem} {w : World} (h : Rel (β.also Ds) K σ m w) : Rel β K σ m (thaw w Ds) ∧ (∀ p b, K p b → (Pm.thaw w Ds).heap[b]? = w.heap[b]?) ∧ Ds.Nodup ∧ ∀ D ∈ Ds, w.heap[D]? = some (.deferred (some [])) := by
  have hin : ∀ D ∈ Ds, D ∈ (β.also Ds).frz := fun D hD => List.mem_append_left _ hD
  have hK : ∀ p b, K p b → (Pm.thaw w Ds).heap[b]? = w.heap[b]? := fun p b hb => thaw_other Ds w b fun hD => (h.frz b (hin b hD)).2.2.2.1 p hb
  have hO : ∀ b, Owned σ m b → (Pm.thaw w Ds).heap[b]? = w.heap[b]? := fun b hb => thaw_other Ds w b fun hD => (h.frz b (hin b hD)).2.2.1 hb
  obtain ⟨t1, t2, t3⟩ := thaw_rest Ds w
  obtain ⟨n1, n2, n3⟩ := List.nodup_append.1 h.nd
  refine ⟨⟨h.next, fun pos g o ho => ?_, h.inj, fun b hb => ?_, fun p b hb => ?_, h.kept0, h.sig, ?_, fun b hb hn => ?_, t1.trans h.os, t2.trans h.tape, t3.trans h.output, n2, fun D hD => ?_, β.gst w _ h.gl.1 fun b hb => thaw_other Ds w b fun hD => (h.frz b (hin b hD)).2.2.2.2 hb, fun b hb => ⟨by rw [thaw_size]; exact (h.gl.2 b hb).1, (h.gl.2 b hb).2⟩⟩, hK, n1, fun D hD => (h.frz D (hin D hD)).1⟩
  · obtain ⟨s, hs, hr⟩ := h.objs pos g o ho
    exact ⟨s, hs, hr.mono (List.prefix_refl _) (fun _ _ h => h) hK fun b c e => by subst e; exact hO b ⟨pos, g, o, c, ho, hs⟩⟩
  · obtain ⟨h1, h2, h3⟩ := h.own b hb
    exact ⟨h1, by rw [thaw_size]; exact h2, h3⟩
  · obtain ⟨h1, h2⟩ := h.kept p b hb
    exact ⟨h1, by rw [thaw_size]; exact h2⟩
  · rw [thaw_size]; exact h.size
  · rw [thaw_other Ds w b fun hD => by have h1 := (h.frz b (hin b hD)).2.1; have h2 : b < β.w0.heap.size := hb; exact absurd (Nat.lt_of_lt_of_le h2 h1) (Nat.lt_irrefl _)]
    exact h.frame b hb hn
  · obtain ⟨f1, f2, f3, f4, f5⟩ := h.frz D (List.mem_append_right _ hD)
    exact ⟨(thaw_other Ds w D fun hD' => n3 D hD' D hD rfl).trans f1, f2, f3, f4, f5⟩
theorem St.thaw {Ds : List Nat} {σ : Sig} {K : Bool → Nat → Prop} {e : Env} {m : Mem} {a : Act} {w : World} (h : St (β.also Ds) N e m a w σ K) : St β N e m { a with defers := β.D } (thaw w Ds) σ K ∧ a.defers = Ds.map mark ++ β.D :=
  ⟨⟨h.rel.thaw.1, (h.env.mono (List.prefix_refl _) (fun _ _ h => h) h.rel.thaw.2.1 : EnvR σ K (Pm.thaw w Ds) e a), rfl, h.size⟩, h.defers⟩
theorem acalls_of_wp {f : FuncId} {fn : Func} {c : Code} {sc : SC} {rs : List Res} {xs : List AV} {m : Mem} {R : AOut → Mem → Prop} (hf : P.funcs[f]? = some fn) (hb : fn.body = some c) (hn : (fn.name == "runtime.NumGoroutine") = false)
    (hc : compCode P imp fn.ntmps c = some sc.strip) (hr : compRes P fn.results.toList = some rs) (hlen : xs.length ≤ fn.ntmps) (h : wp P imp sc (endPost rs R) (Env.ofArgs 0 xs) m) : ACalls P f xs m R := by
  refine ⟨⟨fn, hf, by rw [hb]; rfl, hn⟩, fun β K σ w vals hrel hv hβ => ?_⟩
  have hvl := VRs_length hv
  refine calls_of_wpR hf hb (wpR_mono (wp_sound (r := none) (z := False) (σ0 := σ) (K0 := K) (w0 := w) c sc hc (.inl ⟨rfl, fun _ h => h⟩) (fun h => h.elim) { β with D := [] } hβ _ _ m _ w σ K h ⟨hrel.withD [], ?_, rfl, ?_⟩ ⟨List.prefix_refl _, fun _ _ h => h, fun _ _ _ => rfl⟩) ?_)
  · intro t
    rw [Env.get_ofArgs]
    simp only [Nat.zero_le, if_true, Nat.sub_zero]
    cases hx : xs[t]? with
    | none => simp [VR]
    | some x =>
      obtain ⟨u, hu, hV⟩ := (VRs_iff.1 hv).2 t x hx
      have ht := (List.getElem?_eq_some_iff.1 hu).1
      have : (vals.toArray ++ Array.replicate (fn.ntmps - vals.toArray.size) undef).getD t undef = u := by
        rw [Array.getD_eq_getD_getElem?, Array.getElem?_append_left (by simpa using ht)]
        simp [hu]
      rw [this]
      exact hV
  · simp; omega
  · rintro ex a' w' ⟨Ds, ax, e', m', σ', K', hq, hxr, hst', ⟨h1, h2, h3⟩, _⟩
    obtain ⟨hrel2, hK2, hnd, hfr⟩ := hst'.rel.thaw
    obtain ⟨hst2, hdef⟩ := hst'.thaw
    have h3' : ∀ p b, K p b → (Pm.thaw w' Ds).heap[b]? = w.heap[b]? := fun p b hb => (hK2 p b (h2 p b hb)).trans (h3 p b hb)
    have done : ∀ v, resA rs e' m' = some v → R (.ret v) m' → LeavesInM Fence.wide 0 P fn a'.tmps (fun e w' => ∃ K' σ' m' out, R out m' ∧ Rel β K' σ' m' w' ∧ σ <+: σ' ∧ (∀ p b, K p b → K' p b) ∧ (∀ p b, K p b → w'.heap[b]? = w.heap[b]?) ∧ OutR σ' K' w' out e) a'.defers .returning w' := by
      intro v hv hR
      obtain ⟨u, hu, hV⟩ := resA_sound hst2 hr hv
      rw [hdef]
      exact leaves_marks (by simp) Ds w' hnd hfr ⟨u, hu, K', σ', m', .ret v, hR, hrel2.offD, h1, h2, h3', u, rfl, hV⟩
    cases ex <;> cases ax <;> simp only [exitR] at hxr
    case normal.norm =>
      obtain ⟨v, hv, hR⟩ := hq
      exact done v hv hR
    case ret.ret =>
      obtain ⟨v, hv, hR⟩ := hq
      exact done v hv hR
    case exit.exit => exact hq.elim
    case panic.panic v chain =>
      obtain ⟨u, rfl, hV⟩ := hxr
      show LeavesInM Fence.wide 0 P fn a'.tmps _ a'.defers _ w'
      rw [hdef]
      exact leaves_marks (by simp) Ds w' hnd hfr ⟨K', σ', m', .panic _, hq, hrel2.offD, h1, h2, h3', u, rfl, VR.mono (List.prefix_refl _) (fun _ _ h => h) hK2 _ _ hV⟩
def Env.sets (e : Env) : List Nat → List AV → Env
  | p :: ps, x :: xs => (e.set p x).sets ps xs
  | _, _ => e
theorem EnvR.sets {σ : Sig} {K : Bool → Nat → Prop} {w : World} {ds : List Deferred} : ∀ (ps : List Nat) (xs : List AV) (us : List Value) (e : Env) (t : Array Value), xs.length = ps.length → ps.all (· < t.size) = true → VRs σ K w xs us → EnvR σ K w e ⟨t, ds⟩ →
    EnvR σ K w (e.sets ps xs) ⟨(ps.zip us).foldl (fun t (p, v) => t.setIfInBounds p v) t, ds⟩ ∧ ((ps.zip us).foldl (fun t (p, v) => t.setIfInBounds p v) t).size = t.size
  | [], xs, us, e, t, _, _, _, he => by cases xs <;> exact ⟨he, rfl⟩
  | p :: ps, [], us, e, t, hl, _, _, _ => by simp at hl
  | p :: ps, x :: xs, us, e, t, hl, hp, hv, he => by
    obtain ⟨u, us', rfl, hV, hv⟩ := hv
    simp only [List.all_cons, Bool.and_eq_true, decide_eq_true_eq] at hp
    have h1 := he.put (d := some p) (v := x) (u := u) hV (by simpa using hp.1) rfl
    obtain ⟨h2, h3⟩ := EnvR.sets ps xs us' (e.set p x) (t.setIfInBounds p u) (by simpa using hl) (by simpa using hp.2) hv h1
    exact ⟨h2, by rw [List.zip_cons_cons, List.foldl_cons, h3]; simp⟩
def roundPost' (pos gen : Nat) (e : Env) (ok : Loop → Prop) (R : AOut → Mem → Prop) : Post := fun x _ m => match x with
  | .norm => m.obj pos gen = some (.loop .busy e ok) ∧ ∃ m', Mem.le m' (m.put pos gen (.loop .ready e ok)) ∧ R (.ret (.bool true)) m'
  | .ret => m.obj pos gen = some (.loop .busy e ok) ∧ ∃ m', Mem.le m' (m.put pos gen (.loop .ret e ok)) ∧ R (.ret (.bool false)) m'
  | .exit id => m.obj pos gen = some (.loop .busy e ok) ∧ ∃ m', Mem.le m' (m.put pos gen (.loop (.exit id) e ok)) ∧ R (.ret (.bool false)) m'
  | .panic v => R (.panic v) m
theorem ycalls_of_wp {pos gen : Nat} {ps : List Nat} {sa sb : SC} {e : Env} {xs : List AV} {m : Mem} {R : AOut → Mem → Prop} (ho : m.obj pos gen = some (.loop .ready e (loopOk P imp ps sa sb))) (hl : xs.length = ps.length)
    (h : wp P imp sa (fun x e1 m1 => x = .norm ∧ m1.obj pos gen = some (.loop .ready e (loopOk P imp ps sa sb)) ∧ wp P imp sb (roundPost' pos gen e (loopOk P imp ps sa sb) R) e1 (m1.put pos gen (.loop .busy e (loopOk P imp ps sa sb)))) (e.sets ps xs) m) : YCalls P pos gen xs m R := by
  intro β K σ w vals b c hrel hv hg hβ
  obtain ⟨ok, hok⟩ : ∃ ok, ok = loopOk P imp ps sa sb := ⟨_, rfl⟩
  rw [← hok] at ho h
  obtain ⟨s, hs, hOR⟩ := hrel.at_obj ho
  rw [hg] at hs; injection hs with hs; subst hs
  obtain ⟨rc, hrc, hst, hpe, hokr, henv⟩ := hOR
  have hokr' := hokr
  rw [hok] at hokr'
  obtain ⟨k1, k2, k3, k4, k5, k6, k7⟩ := hokr'
  have hvl := VRs_length hv
  refine ⟨rc.fn, _, rc.assign, rc.body, run_yield hrc (by rw [k1]; simp; omega), fun r n => roundIn_of k7 ?_⟩
  have hsets := EnvR.sets (ds := []) ps xs vals e rc.tmps hl k6 hv henv
  have hfold : ((rc.params.zip vals.toArray).foldl (fun tmps (t, a) => tmps.setIfInBounds t a) rc.tmps) = (ps.zip vals).foldl (fun t (p, v) => t.setIfInBounds p v) rc.tmps := by
    rw [k1]; simp
  rw [hfold]
  refine wpR_mono (wp_sound (r := some b) (z := True) (N := rc.tmps.size) (σ0 := σ) (K0 := K) (w0 := w) rc.assign sa k2 (.inr k4) (fun _ => k4) { β with D := [] } hβ _ _ m _ w σ K h ⟨hrel.withD [], hsets.1, rfl, hsets.2⟩ ⟨List.prefix_refl _, fun _ _ h => h, fun _ _ _ => rfl⟩) ?_
  rintro ex a1 w1 ⟨Ds, ax, e1, m1, σ1, K1, ⟨rfl, ho1, h1⟩, hxr, hst1, hext1, hD⟩
  have hD := hD trivial
  subst hD
  rw [Base.also_nil] at hst1
  cases ex <;> simp only [exitR] at hxr
  refine ⟨rfl, ?_⟩
  have turn : ∀ {σ1 : Sig} {K1 : Bool → Nat → Prop} {m1 : Mem} {w1 : World} {st : LoopSt}, Rel { β with D := [] } K1 σ1 m1 w1 → σ <+: σ1 → m1.obj pos gen = some (.loop st e ok) → ∃ r1 : Loop, w1.heap[b]? = some (.loop r1) ∧ r1.state = st.state ∧ r1.pending = st.jump ∧ ok r1 ∧ ∀ (st' : LoopSt) (r2 : Loop), r2.state = st'.state → r2.pending = st'.jump → ok r2 → r2.tmps = r1.tmps →
      Rel { β with D := [] } K1 σ1 (m1.put pos gen (.loop st' e ok)) (w1.putObj b (.loop r2)) ∧ (∀ p b', K1 p b' → (w1.putObj b (.loop r2)).heap[b']? = w1.heap[b']?) := by
    intro σ1 K1 m1 w1 st hrel1 hpre ho1
    obtain ⟨s, hs, hOR⟩ := hrel1.at_obj ho1
    rw [pre_get hpre hg] at hs; injection hs with hs; subst hs
    obtain ⟨r1, e1, e2, e3, e4, e5⟩ := hOR
    refine ⟨r1, e1, e2, e3, e4, fun st' r2 q1 q2 q3 q4 => ?_⟩
    have hK : ∀ p b', K1 p b' → (w1.putObj b (.loop r2)).heap[b']? = w1.heap[b']? := fun p b' hb => World.putObj_heap_other (fun e => by
      subst e; exact (hrel1.own b' ⟨pos, gen, _, c, Mem.obj_some ho1, pre_get hpre hg⟩).2.2 p hb)
    obtain ⟨a1, a2⟩ := hrel1.put_loop (x := .loop r2) (o' := .loop st' e ok) ho1 (pre_get hpre hg) ⟨r2, World.putObj_heap_same (frz_lt e1), q1, q2, q3, fun t => by rw [q4]; exact VR.mono (List.prefix_refl _) (fun _ _ h => h) hK _ _ (e5 t)⟩
    exact ⟨a1, a2⟩
  have okS : ∀ (r : Loop) (s : LoopState) (p : Option Code), ok r → ok { r with state := s, pending := p } := fun r s p hr => by rw [hok] at hr ⊢; exact hr
  obtain ⟨i1, i2, i3⟩ := hext1
  obtain ⟨r1, q1, q2, q3, q4, q5⟩ := turn hst1.rel i1 ho1
  obtain ⟨hrel2, hK2⟩ := q5 .busy { r1 with state := .busy } rfl q3 (okS r1 .busy r1.pending q4) rfl
  refine ⟨_, run_beginRound q1 q2, ?_⟩
  generalize w1.putObj b (.loop { r1 with state := .busy }) = w2 at hrel2 hK2 ⊢
  refine wpR_mono (wp_sound (r := some b) (z := True) (N := rc.tmps.size) (σ0 := σ) (K0 := K) (w0 := w) rc.body sb k3 (.inr k5) (fun _ => k5) { β with D := [] } hβ _ _ _ a1 w2 σ1 K1 h1 ⟨hrel2, hst1.env.mono (List.prefix_refl _) (fun _ _ h => h) hK2, hst1.defers, hst1.size⟩ ⟨i1, i2, fun p b hb => (hK2 p b (i2 p b hb)).trans (i3 p b hb)⟩) ?_
  rintro ex a2 w3 ⟨Ds2, ax2, e2, m2, σ2, K2, hq2, hxr2, hst2, ⟨j1, j2, j3⟩, hD2⟩
  have hD2 := hD2 trivial
  subst hD2
  rw [Base.also_nil] at hst2
  have fin : ∀ (jump : Option Code) (st : LoopSt) (t : Bool), st.jump = jump → (if jump.isNone then LoopState.ready else .done) = st.state → jump.isNone = t → m2.obj pos gen = some (.loop .busy e ok) → (∃ m', Mem.le m' (m2.put pos gen (.loop st e ok)) ∧ R (.ret (.bool t)) m') →
      ∃ v w', (Instr.endRound b jump).run P w3 = .ok v w' ∧ ∃ K' σ' m' out, R out m' ∧ Rel β K' σ' m' w' ∧ σ <+: σ' ∧ (∀ p b, K p b → K' p b) ∧ (∀ p b, K p b → w'.heap[b]? = w.heap[b]?) ∧ OutR σ' K' w' out (.returned v) := by
    intro jump st t hj hs ht ho2 hm
    obtain ⟨m', ⟨hle1, n', hle2⟩, hR⟩ := hm
    obtain ⟨r2, u1, u2, u3, u4, u5⟩ := turn hst2.rel j1 ho2
    have hend := run_endRound (P := P) jump u1
    obtain ⟨hrel4, hK4⟩ := u5 st { r2 with state := if jump.isNone then .ready else .done, pending := jump } hs hj.symm (okS r2 _ jump u4) rfl
    have hm' : m' = ⟨(m2.put pos gen (.loop st e ok)).store.take n', (m2.put pos gen (.loop st e ok)).next⟩ := by cases m'; simp only at hle1 hle2; rw [hle1, hle2]
    refine ⟨_, _, hend, K2, σ2, m', .ret (.bool t), hR, by rw [hm']; exact (hrel4.forget n').offD, j1, j2, fun p b' hb => (hK4 p b' (j2 p b' hb)).trans (j3 p b' hb), _, rfl, ?_⟩
    rw [VR, ht]
  cases ex <;> cases ax2 <;> simp only [exitR] at hxr2
  case normal.norm => exact fin none .ready true rfl rfl rfl hq2.1 hq2.2
  case exit.exit =>
    subst hxr2
    exact fin (some (.exit _)) (.exit _) false rfl rfl rfl hq2.1 hq2.2
  case ret.ret => exact fin (some .ret) .ret false rfl rfl rfl hq2.1 hq2.2
  case panic.panic =>
    obtain ⟨u, rfl, hVu⟩ := hxr2
    exact ⟨hst2.defers, K2, σ2, m2, .panic _, hq2, hst2.rel.offD, j1, j2, j3, u, rfl, hVu⟩
end
end Go.Pm
