/-
  Every operation.
-/
import Derived.Test.YtnmkbnejapdnnaaEvOpM
set_option linter.unusedVariables false
namespace Go.Proofs.Ytnmkbnejapdnnaa.Ev
open Go

theorem op_sound {P : Program} {N0 : Nat} {μ : Mp} {σ : St} {w : World} {k : Cn} {K : KT} {d nt : Nat} {a : Act} {t : Tr} {o : Oper} (hK : KOk P N0 K) (hs : SR P N0 μ σ w) (ht : TR μ d t a.tmps) (hn : a.tmps.size = nt) {e : EOp}
    (hop : opOk P d nt o.op o.type e = true) (h : evalOp e K t σ k) : OpS P N0 μ σ w (execOp a.eval o) k := by
  cases e with
  | mv x => exact s_mv hs ht hn hop h
  | asg x => exact s_asg hs ht hn hop h
  | pick c x y => exact s_pick hs ht hn hop h
  | alloc zs => exact s_alloc hs ht hn hop h
  | box x => exact s_box hs ht hn hop h
  | build zs parts => exact s_build hs ht hn hop h
  | bslice es len zs parts => exact s_bslice hs ht hn hop h
  | ld n x => exact s_ld hs ht hn hop h
  | st n x y => exact s_st hs ht hn hop h
  | nilck x => exact s_nilck hs ht hn hop h
  | bin op x y => exact s_bin hs ht hn hop h
  | eqb neg x y => exact s_eqb hs ht hn hop h
  | eqn kd neg x y => exact s_eqn hs ht hn hop h
  | eqa neg ls x y => exact s_eqa hs ht hn hop h
  | un op x => exact s_un hs ht hn hop h
  | cvt k x => exact s_cvt hs ht hn hop h
  | s2b x => exact s_s2b hs ht hn hop h
  | slen x => exact s_slen hs ht hn hop h
  | mkfn f first cap => exact s_mkfn hs ht hn hop h
  | mkmap => exact s_mkmap hs ht hn hop h
  | mksl es bytes zs l c => exact s_mksl hs ht hn hop h
  | slc es x lo hi mx => exact s_slc hs ht hn hop h
  | slcs x lo hi => cases hop
  | slca n es x lo hi mx => exact s_slca hs ht hn hop h
  | fadr off x => exact s_fadr hs ht hn hop h
  | fld off n x => exact s_fld hs ht hn hop h
  | ixs es x i => exact s_ixs hs ht hn hop h
  | ixa n es x i => exact s_ixa hs ht hn hop h
  | ixv len es n x i => exact s_ixv hs ht hn hop h
  | ixstr x i => exact s_ixstr hs ht hn hop h
  | look ls zero x k ok => exact s_look hs ht hn hop h
  | mput ls m k v => exact s_mput hs ht hn hop h
  | mentry ls zero m k => cases hop
  | estore m s v => cases hop
  | mrange x => exact s_mrange hs ht hn hop h
  | mnext x => exact s_mnext hs ht hn hop h
  | mcur x => exact s_mcur hs ht hn hop h
  | ext x i => exact s_ext hs ht hn hop h
  | call f args => exact s_call hK hs ht hn hop h
  | calld x args => exact s_calld hK hs ht hn hop h
  | app es bytes s x => exact s_app hs ht hn hop h
  | appz es bytes zs s x => exact s_appz hs ht hn hop h
  | len x => exact s_len hs ht hn hop h
  | lenm x => cases hop
  | lenc n => cases hop
  | cap x => exact s_cap hs ht hn hop h
  | copy es d s => exact s_copy hs ht hn hop h
  | clear zs x => exact s_clear hs ht hn hop h
  | del ls m k => exact s_del hs ht hn hop h
  | min xs => exact s_min hs ht hn hop h
  | max xs => exact s_max hs ht hn hop h
  | bad => exact False.elim h

end Go.Proofs.Ytnmkbnejapdnnaa.Ev
